/- Lemmas for the proof: no conditions. -/
import Derived.Test.YtnfpmiiopiinbaaGreatDoorRipZz
import Derived.RangeFuncIn
import Derived.Laws.AppendOwn
import Derived.Below
import Derived.Laws.StructEq
import Derived.Lib.ConvBytes
import Derived.RangeFuncLeaves
import Derived.RangeFuncCalls
import Derived.Laws.MakeOwn
set_option linter.unusedVariables false
set_option linter.unusedSimpArgs false
set_option linter.loopingSimpArgs false
namespace Go.Rip
open Go.RowKit
structure Tok where
 n : Nat
 e : TypeId
 size : Nat
 deriving DecidableEq
inductive hX where
 | full
 | own (τ : Nat)
 | gl
inductive AV where
 | bool (b : Bool)
 | int (k : IntKind) (n : Int)
 | str (s : List UInt8)
 | aT
 | ag
 | jf
 | cP
 | cA
 | box (b off : Nat)
 | bY (l : List AV)
 | vec (n : Nat) (cap : hX) (l : List AV)
 | ms (b off n fW : Nat) (e : TypeId)
 | mp (m : Nat)
 | dY (ks vs : List AV)
 | func (fn : Fn) (first captured : List AV)
 | iface (t : TypeId) (v : AV)
 | agg (l : List AV)
 | aN (l : List AV)
 | oy (o : Nat)
 | it (o : Nat)
 | any
instance : Inhabited AV := ⟨.any⟩
structure Place where
 aB : Nat
 e : TypeId
 size : Nat
structure ey where
 ρ : Nat -> AV
 nt : Nat
 params : Array Tmp
 assign : Code
 body : Code
 state : LoopState
 ee : Option Code
 tag : Nat
inductive Live where
 | box (l : List AV)
 | tok (t : Tok)
 | mp (ks vs : List AV)
 | loop (L : ey)
 | iter (rest : List (AV × AV)) (cur : Option (AV × AV))
 | wB (t : TypeId) (l : List AV)
structure Gh where
 base : Nat
 w0 : World
 place : Nat -> Option Place
 bI : Nat -> Nat -> Option Value
 bo : Nat -> Option (Array MapEntry × Nat)
 res : Nat -> Bool
def Gh.box (g : Gh) (b : Nat) : Option Place := g.place b
def Gh.tok (g : Gh) (b : Nat) : Option (Nat × Nat) := (g.place b).map fun p => (p.aB, p.size)
def Gh.mp (g : Gh) (b : Nat) : Option Nat := (g.place b).map (·.aB)
theorem Gh.gO {g : Gh} {b : Nat} {x : Nat × Nat} : g.tok b = some x ↔ ∃ p, g.place b = some p /\ p.aB = x.1 /\ p.size = x.2 := by
 unfold Gh.tok
 cases g.place b with
 | none => simp
 | some p => simp [Prod.ext_iff]
theorem Gh.lO {g : Gh} {b : Nat} {x : Nat} : g.mp b = some x ↔ ∃ p, g.place b = some p /\ p.aB = x := by
 unfold Gh.mp
 cases g.place b with
 | none => simp
 | some p => simp
def ig (g : Gh) (aB off : Nat) (vs : List Value) : Prop := ∀ i u, vs[i]? = some u -> g.bI aB (off + i) = some u
def mD (g : Gh) (cap : hX) (aB off n c : Nat) : Prop :=
 match cap with
 | .full => c = n
 | .own τ => off = 0 /\ g.tok τ = some (aB, c)
 | .gl => True
def ga : AV -> AV -> Bool
 | .int k a, .int k' b => decide (k = k') && decide (a < b)
 | .str a, .str b => decide (a < b)
 | _, _ => false
def lF (ks : List AV) : Prop := ks.Pairwise (fun a b => ga a b = true)
def gP (es : Array MapEntry) (clock : Nat) : Prop := (es.toList.map (·.born)).Nodup /\ ∀ e ∈ es.toList, e.born < clock
mutual
def ao (g : Gh) : AV -> Value -> Prop
 | .bool b, v => v = .bool b
 | .int k n, v => v = .int k n
 | .str s, v => v = .string ⟨s.toArray⟩
 | .aT, v => v = .pointer none
 | .ag, v => v = .slice none 0 0
 | .jf, v => v = .map none
 | .cP, v => v = .nilFunc
 | .cA, v => v = .nilIface
 | .box b off, v => ∃ x, g.box b = some x /\ v = .pointer (some ⟨x.aB, off, none⟩)
 | .bY l, v => ∃ aB off vs, v = .pointer (some ⟨aB, off, none⟩) /\ ig g aB off vs /\ ax g l vs
 | .vec n cap l, v => ∃ aB off c vs, v = .slice (some ⟨aB, off, none⟩) n c /\ n <= c /\ c <= maxLen /\ mD g cap aB off n c /\ ig g aB off vs /\ ax g l vs
 | .ms b off n fW e, v => ∃ x c, g.box b = some x /\ v = .slice (some ⟨x.aB, off, none⟩) n c /\ n <= c /\ c <= maxLen /\ off + c * fW = x.size /\ x.e = e
 | .mp m, v => ∃ r, g.mp m = some r /\ v = .map (some r)
 | .dY ks vs, v => ∃ r es clock, ∃ l : List MapEntry, v = .map (some r) /\ g.bo r = some (es, clock) /\ l.Perm es.toList /\ lF ks /\ ax g ks (l.map (·.key)) /\ ax g vs (l.map (·.val))
 | .func fn first captured, v => ∃ fs cs, v = .func fn (List.toArray fs) (List.toArray cs) /\ ax g first fs /\ ax g captured cs
 | .iface t x, v => ∃ u, v = .iface t u /\ ao g x u
 | .agg l, v => ∃ vs, v = .agg (List.toArray vs) /\ (∀ u ∈ vs, u.oneCell' = true) /\ ax g l vs
 | .aN l, v => ∃ vs, v = .tuple (List.toArray vs) /\ ax g l vs
 | .oy o, v => ∃ x, g.place o = some x /\ v = .func (.yield x.aB) #[] #[]
 | .it o, v => ∃ x, g.place o = some x /\ v = .pointer (some ⟨x.aB, 0, none⟩)
 | .any, _ => True
def ax (g : Gh) : List AV -> List Value -> Prop
 | [], vs => vs = []
 | x :: xs, vs => ∃ u us, vs = u :: us /\ ao g x u /\ ax g xs us
end
structure Gh.Le (g g' : Gh) : Prop where
 base : g'.base = g.base
 w0 : g'.w0 = g.w0
 place : ∀ b x, g.place b = some x -> g'.place b = some x
 bI : ∀ b o x, g.bI b o = some x -> g'.bI b o = some x
 bo : ∀ b x, g.bo b = some x -> g'.bo b = some x
 res : ∀ b, g.res b = true -> g'.res b = true
 uz : ∀ b o, b < g.base -> g'.bI b o = g.bI b o
 rF : ∀ b, b < g.base -> g'.bo b = g.bo b
theorem Gh.Le.refl (g : Gh) : Gh.Le g g := ⟨rfl, rfl, fun _ _ h => h, fun _ _ _ h => h, fun _ _ h => h, fun _ h => h, fun _ _ _ => rfl, fun _ _ => rfl⟩
theorem Gh.Le.trans {a b c : Gh} (h : Gh.Le a b) (k : Gh.Le b c) : Gh.Le a c :=
 ⟨k.base.trans h.base, k.w0.trans h.w0, fun _ _ x => k.place _ _ (h.place _ _ x), fun _ _ _ x => k.bI _ _ _ (h.bI _ _ _ x), fun _ _ x => k.bo _ _ (h.bo _ _ x), fun _ x => k.res _ (h.res _ x),
   fun q o hq => (k.uz q o (by rw [h.base]; exact hq)).trans (h.uz q o hq), fun q hq => (k.rF q (by rw [h.base]; exact hq)).trans (h.rF q hq)⟩
structure Gh.pa (g g' : Gh) : Prop where
 place : ∀ b x, g.place b = some x -> g'.place b = some x
 bI : ∀ b o x, g.bI b o = some x -> g'.bI b o = some x
 bo : ∀ b x, g.bo b = some x -> g'.bo b = some x
theorem Gh.pa.tok {g g' : Gh} (h : Gh.pa g g') {b : Nat} {x : Nat × Nat} (hb : g.tok b = some x) : g'.tok b = some x := by
 obtain ⟨p, h1, h2, h3⟩ := Gh.gO.1 hb
 exact Gh.gO.2 ⟨p, h.place _ _ h1, h2, h3⟩
theorem Gh.pa.mp {g g' : Gh} (h : Gh.pa g g') {b x : Nat} (hb : g.mp b = some x) : g'.mp b = some x := by
 obtain ⟨p, h1, h2⟩ := Gh.lO.1 hb
 exact Gh.lO.2 ⟨p, h.place _ _ h1, h2⟩
theorem Gh.Le.r {g g' : Gh} (h : Gh.Le g g') : Gh.pa g g' := ⟨h.place, h.bI, h.bo⟩
theorem Gh.Le.box {g g' : Gh} (h : Gh.Le g g') (b : Nat) (x : Place) (hb : g.box b = some x) : g'.box b = some x := h.place b x hb
theorem Gh.Le.tok {g g' : Gh} (h : Gh.Le g g') (b : Nat) (x : Nat × Nat) (hb : g.tok b = some x) : g'.tok b = some x := h.r.tok hb
theorem Gh.Le.mp {g g' : Gh} (h : Gh.Le g g') (b : Nat) (x : Nat) (hb : g.mp b = some x) : g'.mp b = some x := h.r.mp hb
theorem ig.dv {g g' : Gh} (h : Gh.pa g g') {aB off : Nat} {vs : List Value} (hi : ig g aB off vs) : ig g' aB off vs := fun i u hu => h.bI _ _ _ (hi i u hu)
theorem mD.dv {g g' : Gh} (h : Gh.pa g g') {cap : hX} {aB off n c : Nat} (hi : mD g cap aB off n c) : mD g' cap aB off n c := by
 cases cap with
 | full => exact hi
 | own τ => exact ⟨hi.1, h.tok hi.2⟩
 | gl => trivial
mutual
theorem ao.dv {g g' : Gh} (h : Gh.pa g g') : ∀ (x : AV) (v : Value), ao g x v -> ao g' x v
 | .bool _, _, hr => hr
 | .int _ _, _, hr => hr
 | .str _, _, hr => hr
 | .aT, _, hr => hr
 | .ag, _, hr => hr
 | .jf, _, hr => hr
 | .cP, _, hr => hr
 | .cA, _, hr => hr
 | .box _ _, _, hr => by
   simp only [ao] at hr ⊢
   obtain ⟨x, hx, hv⟩ := hr
   exact ⟨x, h.place _ _ hx, hv⟩
 | .bY l, _, hr => by
   simp only [ao] at hr ⊢
   obtain ⟨aB, off, vs, hv, hi, hl⟩ := hr
   exact ⟨aB, off, vs, hv, hi.dv h, ax.dv h l vs hl⟩
 | .vec n cap l, _, hr => by
   simp only [ao] at hr ⊢
   obtain ⟨aB, off, c, vs, hv, h1, h2, hc, hi, hl⟩ := hr
   exact ⟨aB, off, c, vs, hv, h1, h2, hc.dv h, hi.dv h, ax.dv h l vs hl⟩
 | .ms _ _ _ _ _, _, hr => by
   simp only [ao] at hr ⊢
   obtain ⟨x, c, hx, r⟩ := hr
   exact ⟨x, c, h.place _ _ hx, r⟩
 | .mp _, _, hr => by
   simp only [ao] at hr ⊢
   obtain ⟨x, hx, hv⟩ := hr
   exact ⟨x, h.mp hx, hv⟩
 | .dY ks vs, _, hr => by
   simp only [ao] at hr ⊢
   obtain ⟨r, es, c, l, hv, he, hp, hs, h1, h2⟩ := hr
   exact ⟨r, es, c, l, hv, h.bo _ _ he, hp, hs, ax.dv h ks _ h1, ax.dv h vs _ h2⟩
 | .func fn first captured, _, hr => by
   simp only [ao] at hr ⊢
   obtain ⟨fs, cs, hv, h1, h2⟩ := hr
   exact ⟨fs, cs, hv, ax.dv h first _ h1, ax.dv h captured _ h2⟩
 | .iface t x, _, hr => by
   simp only [ao] at hr ⊢
   obtain ⟨u, hv, h1⟩ := hr
   exact ⟨u, hv, ao.dv h x _ h1⟩
 | .agg l, _, hr => by
   simp only [ao] at hr ⊢
   obtain ⟨vs, hv, h0, h1⟩ := hr
   exact ⟨vs, hv, h0, ax.dv h l _ h1⟩
 | .aN l, _, hr => by
   simp only [ao] at hr ⊢
   obtain ⟨vs, hv, h1⟩ := hr
   exact ⟨vs, hv, ax.dv h l _ h1⟩
 | .oy o, _, hr => by
   simp only [ao] at hr ⊢
   obtain ⟨x, hx, hv⟩ := hr
   exact ⟨x, h.place _ _ hx, hv⟩
 | .it o, _, hr => by
   simp only [ao] at hr ⊢
   obtain ⟨x, hx, hv⟩ := hr
   exact ⟨x, h.place _ _ hx, hv⟩
 | .any, _, _ => by simp only [ao]
theorem ax.dv {g g' : Gh} (h : Gh.pa g g') : ∀ (l : List AV) (vs : List Value), ax g l vs -> ax g' l vs
 | [], _, hr => by simpa only [ax] using hr
 | x :: xs, _, hr => by
   simp only [ax] at hr ⊢
   obtain ⟨u, us, hv, h1, h2⟩ := hr
   exact ⟨u, us, hv, ao.dv h x _ h1, ax.dv h xs _ h2⟩
end
theorem ig.mono {g g' : Gh} (h : Gh.Le g g') {aB off : Nat} {vs : List Value} (hi : ig g aB off vs) : ig g' aB off vs := hi.dv h.r
theorem mD.mono {g g' : Gh} (h : Gh.Le g g') {cap : hX} {aB off n c : Nat} (hi : mD g cap aB off n c) : mD g' cap aB off n c := hi.dv h.r
theorem ao.mono {g g' : Gh} (h : Gh.Le g g') (x : AV) (v : Value) (hr : ao g x v) : ao g' x v := ao.dv h.r x v hr
theorem ax.mono {g g' : Gh} (h : Gh.Le g g') (l : List AV) (vs : List Value) (hr : ax g l vs) : ax g' l vs := ax.dv h.r l vs hr
theorem ax.length {g : Gh} : ∀ {l : List AV} {vs : List Value}, ax g l vs -> vs.length = l.length
 | [], _, h => by simp only [ax] at h; simp [h]
 | _ :: xs, _, h => by
   simp only [ax] at h
   obtain ⟨u, us, rfl, _, h2⟩ := h
   simp [ax.length h2]
theorem ax.append {g : Gh} : ∀ {l l' : List AV} {vs vs' : List Value}, ax g l vs -> ax g l' vs' -> ax g (l ++ l') (vs ++ vs')
 | [], _, _, _, h, h' => by simp only [ax] at h; subst h; simpa using h'
 | _ :: xs, _, _, _, h, h' => by
   simp only [ax, jh] at h ⊢
   obtain ⟨u, us, rfl, h1, h2⟩ := h
   exact ⟨u, us ++ _, rfl, h1, ax.append h2 h'⟩
theorem ax.get {g : Gh} : ∀ {l : List AV} {vs : List Value} {i : Nat} {x : AV}, ax g l vs -> l[i]? = some x -> ∃ v, vs[i]? = some v /\ ao g x v
 | [], _, _, _, _, hx => by simp at hx
 | y :: xs, _, 0, x, h, hx => by
   simp only [ax] at h
   obtain ⟨u, us, rfl, h1, h2⟩ := h
   simp at hx; subst hx; exact ⟨u, rfl, h1⟩
 | y :: xs, _, i + 1, x, h, hx => by
   simp only [ax] at h
   obtain ⟨u, us, rfl, h1, h2⟩ := h
   simp at hx
   obtain ⟨v, hv, hr⟩ := ax.get h2 hx
   exact ⟨v, by simpa using hv, hr⟩
theorem ax.drop {g : Gh} : ∀ {l : List AV} {vs : List Value} (n : Nat), ax g l vs -> ax g (l.drop n) (vs.drop n)
 | _, _, 0, h => by simpa using h
 | [], _, n + 1, h => by simp only [ax] at h; subst h; simp [ax]
 | _ :: xs, _, n + 1, h => by
   simp only [ax] at h
   obtain ⟨u, us, rfl, h1, h2⟩ := h
   simpa using ax.drop n h2
theorem ax.take {g : Gh} : ∀ {l : List AV} {vs : List Value} (n : Nat), ax g l vs -> ax g (l.take n) (vs.take n)
 | _, _, 0, _ => by simp [ax]
 | [], _, n + 1, h => by simp only [ax] at h; subst h; simp [ax]
 | _ :: xs, _, n + 1, h => by
   simp only [ax] at h
   obtain ⟨u, us, rfl, h1, h2⟩ := h
   simp only [List.take_succ_cons, ax]
   exact ⟨u, _, rfl, h1, ax.take n h2⟩
theorem ax.yd {g : Gh} : ∀ {l : List AV} {vs : List Value}, vs.length = l.length -> (∀ (i : Nat) (x : AV) (v : Value), l[i]? = some x -> vs[i]? = some v -> ao g x v) -> ax g l vs
 | [], vs, hl, _ => by simp only [ax]; simpa using hl
 | x :: xs, [], hl, _ => by simp at hl
 | x :: xs, v :: vs, hl, h => by
   simp only [ax]
   exact ⟨v, vs, rfl, h 0 x v rfl rfl, ax.yd (by simpa using hl) fun i x v hx hv => h (i + 1) x v (by simpa using hx) (by simpa using hv)⟩
def sc (g : Gh) (ks vs : List AV) (es : Array MapEntry) : Prop := ∃ l : List MapEntry, l.Perm es.toList /\ lF ks /\ ax g ks (l.map (·.key)) /\ ax g vs (l.map (·.val))
def xr (g : Gh) (es : Array MapEntry) (seen : Array Nat) (rest : List (AV × AV)) (cur : Option (AV × AV)) : Prop :=
 (∃ l : List MapEntry, l.Perm (es.toList.filter fun e => !seen.contains e.born) /\ ax g (rest.map (·.1)) (l.map (·.key)) /\ ax g (rest.map (·.2)) (l.map (·.val))) /\
 (match cur with
  | none => True
  | some (k, v) => ∃ e ∈ es.toList, seen.back? = some e.born /\ ao g k e.key /\ ao g v e.val)
def ij (g : Gh) (w : World) (p : Place) : Live -> Prop
 | .box l => ∃ cur vs rest, w.heap[p.aB]? = some (.cells cur p.e (0, 0)) /\ cur.size = p.size /\ cur.toList = vs ++ rest /\ ax g l vs /\ (∀ u ∈ cur.toList, u.oneCell' = true) /\ (∀ o, g.bI p.aB o = none)
 | .tok t => ∃ cur, w.heap[p.aB]? = some (.cells cur t.e (0, 0)) /\ cur.size = p.size * t.size /\ t.n <= p.size /\ p.size <= maxLen /\ (∀ o, t.n * t.size <= o -> g.bI p.aB o = none)
 | .mp ks vs => ∃ es clock, w.heap[p.aB]? = some (.map es clock) /\ gP es clock /\ sc g ks vs es /\ g.bo p.aB = none
 | .loop L => ∃ fn tmps defers, w.heap[p.aB]? = some (.loop { state := L.state, pending := L.ee, fn, tmps, params := L.params, assign := L.assign, body := L.body, defers }) /\ tmps.size = L.nt /\ ∀ t, ao g (L.ρ t) (tmps.getD t undef)
 | .iter rest cur => ∃ m es clock seen, w.heap[p.aB]? = some (.mapIter (some m) clock seen clock) /\ g.bo m = some (es, clock) /\ xr g es seen rest cur
 | .wB t l => p.e = t /\ p.size = l.length /\ ∃ cur vs rest, w.heap[p.aB]? = some (.cells cur p.e (0, 0)) /\ cur.size = p.size /\ cur.toList = vs ++ rest /\ ax g l vs /\ (∀ u ∈ cur.toList, u.oneCell' = true) /\ (∀ o, g.bI p.aB o = none)
structure St where
 live : Nat -> Option Live
 nb : Option Nat
def St.box (U : St) (b : Nat) : Option (List AV) := match U.live b with | some (.box l) => some l | some (.wB _ l) => some l | _ => none
def St.tok (U : St) (b : Nat) : Option Tok := match U.live b with | some (.tok t) => some t | _ => none
def St.mp (U : St) (b : Nat) : Option (List AV × List AV) := match U.live b with | some (.mp ks vs) => some (ks, vs) | _ => none
def St.loop (U : St) (b : Nat) : Option ey := match U.live b with | some (.loop L) => some L | _ => none
def St.iter (U : St) (b : Nat) : Option (List (AV × AV) × Option (AV × AV)) := match U.live b with | some (.iter r c) => some (r, c) | _ => none
theorem St.pd {U : St} {b : Nat} {l : List AV} (h : U.box b = some l) : ∃ x, U.live b = some x /\ ∀ g w p, ij g w p x -> ij g w p (.box l) := by
 unfold St.box at h
 split at h
 · rename_i l' hl; cases h; exact ⟨_, hl, fun _ _ _ h => h⟩
 · rename_i t l' hl; cases h; exact ⟨_, hl, fun _ _ _ h => h.2.2⟩
 · cases h
theorem St.gO {U : St} {b : Nat} {l : Tok} : U.tok b = some l ↔ U.live b = some (.tok l) := by unfold St.tok; split <;> simp_all
theorem St.lO {U : St} {b : Nat} {l : List AV × List AV} : U.mp b = some l ↔ U.live b = some (.mp l.1 l.2) := by unfold St.mp; split <;> simp_all [Prod.ext_iff]
theorem St.jA {U : St} {b : Nat} {l : ey} : U.loop b = some l ↔ U.live b = some (.loop l) := by unfold St.loop; split <;> simp_all
theorem St.sF {U : St} {b : Nat} {l : List (AV × AV) × Option (AV × AV)} : U.iter b = some l ↔ U.live b = some (.iter l.1 l.2) := by unfold St.iter; split <;> simp_all [Prod.ext_iff]
def St.set (U : St) (b : Nat) (x : Live) : St := { U with live := fun y => if y = b then some x else U.live y }
def St.del (U : St) (b : Nat) : St := { U with live := fun y => if y = b then none else U.live y }
def St.new (U : St) (b : Nat) (x : Live) : St := { live := fun y => if y = b then some x else U.live y, nb := U.nb.map (· + 1) }
def St.cB (U : St) (b : Nat) : Prop := U.live b = none /\ ∀ n, U.nb = some n -> b = n
structure aS (g : Gh) (U : St) (w : World) : Prop where
 below : Below g.base g.w0 w
 le : g.base <= w.heap.size
 bI : ∀ aB o u, g.bI aB o = some u -> w.cell? ⟨aB, o, none⟩ = some u /\ u.oneCell' = true
 bo : ∀ r es c, g.bo r = some (es, c) -> w.heap[r]? = some (.map es c) /\ gP es c
 live : ∀ b x, U.live b = some x -> ∃ p, g.place b = some p /\ g.base <= p.aB /\ ij g w p x
 apart : ∀ b b' x x' p p', U.live b = some x -> U.live b' = some x' -> g.place b = some p -> g.place b' = some p' -> p.aB = p'.aB -> b = b'
 res : ∀ r, g.res r = true -> g.base <= r /\ w.heap[r]? = some (.deferred (some []))
 fin : ∃ N, (∀ n, U.nb = some n -> N = n) /\ ∀ b, N <= b -> g.place b = none
end Go.Rip
namespace Go.Rip
open Go.RowKit
structure St.Le (U ad : St) : Prop where
 live : ∀ b x, U.live b = some x -> ad.live b = some x
 nb : ∀ n, U.nb = some n -> ad.nb = some n
theorem St.Le.refl (U : St) : St.Le U U := ⟨fun _ _ h => h, fun _ h => h⟩
theorem St.Le.trans {a b c : St} (h : St.Le a b) (k : St.Le b c) : St.Le a c := ⟨fun _ _ x => k.live _ _ (h.live _ _ x), fun _ x => k.nb _ (h.nb _ x)⟩
theorem St.pe (U : St) (b : Nat) : St.Le (U.del b) U := ⟨fun x y hx => by simp only [St.del] at hx; split at hx <;> simp_all, fun _ h => h⟩
theorem aS.weaken {g : Gh} {U ad : St} {w : World} (h : aS g ad w) (hl : St.Le U ad) : aS g U w where
 below := h.below
 le := h.le
 bI := h.bI
 bo := h.bo
 live := fun b l hb => h.live b l (hl.live _ _ hb)
 apart := fun b b' l l' x x' h1 h2 => h.apart b b' l l' x x' (hl.live _ _ h1) (hl.live _ _ h2)
 res := h.res
 fin := let ⟨N, h1, h2⟩ := h.fin; ⟨N, fun n hn => h1 n (hl.nb n hn), h2⟩
theorem AM {w w' : World} {k : Nat} (h : w'.heap[k]? = w.heap[k]?) (o : Nat) : w'.cell? ⟨k, o, none⟩ = w.cell? ⟨k, o, none⟩ := by simp [World.cell?, h]
theorem aS.Ii {g : Gh} {U : St} {w : World} (h : aS g U w) {aB o : Nat} {u : Value} (hi : g.bI aB o = some u) : aB < w.heap.size :=
 World.block_lt_of_cell? w ⟨aB, o, none⟩ (h.bI _ _ _ hi).1
theorem aS.EF {g : Gh} {U : St} {w : World} (h : aS g U w) {r : Nat} {x : Array MapEntry × Nat} (hi : g.bo r = some x) : r < w.heap.size :=
 (gV.1 (h.bo r x.1 x.2 hi).1).1
theorem aS.vw {g : Gh} {U : St} {w : World} (h : aS g U w) {q : Nat} (hq : w.heap.size <= q) (o : Nat) : g.bI q o = none := by
 cases e : g.bI q o with
 | none => rfl
 | some u => have := h.Ii e; omega
theorem aS.sy {g : Gh} {U : St} {w : World} (h : aS g U w) {q : Nat} (hq : w.heap.size <= q) : g.bo q = none := by
 cases e : g.bo q with
 | none => rfl
 | some u => have := h.EF e; omega
theorem sc.dv {g g' : Gh} (h : Gh.pa g g') {ks vs : List AV} {es : Array MapEntry} (hm : sc g ks vs es) : sc g' ks vs es :=
 let ⟨l, h1, h2, h3, h4⟩ := hm; ⟨l, h1, h2, h3.dv h, h4.dv h⟩
theorem xr.dv {g g' : Gh} (h : Gh.pa g g') {es : Array MapEntry} {seen : Array Nat} {rest : List (AV × AV)} {cur : Option (AV × AV)} (hm : xr g es seen rest cur) : xr g' es seen rest cur := by
 obtain ⟨⟨l, h1, h2, h3⟩, h4⟩ := hm
 refine ⟨⟨l, h1, h2.dv h, h3.dv h⟩, ?_⟩
 cases cur with
 | none => trivial
 | some kv => obtain ⟨e, k1, k2, k3, k4⟩ := h4; exact ⟨e, k1, k2, k3.dv h, k4.dv h⟩
theorem ij.frame {g g' : Gh} {w w' : World} {p : Place} {x : Live} (h : ij g w p x) (hl : Gh.pa g g') (hb : w'.heap[p.aB]? = w.heap[p.aB]?) (hi : ∀ o, g'.bI p.aB o = g.bI p.aB o) (hm : g'.bo p.aB = g.bo p.aB) : ij g' w' p x := by
 cases x with
 | box l => obtain ⟨cur, vs, rest, h1, h2, h3, h4, h5, h6⟩ := h; exact ⟨cur, vs, rest, hb.trans h1, h2, h3, h4.dv hl, h5, fun o => (hi o).trans (h6 o)⟩
 | tok t => obtain ⟨cur, h1, h2, h3, h4, h5⟩ := h; exact ⟨cur, hb.trans h1, h2, h3, h4, fun o ho => (hi o).trans (h5 o ho)⟩
 | mp ks vs => obtain ⟨es, clock, h1, h2, h3, h4⟩ := h; exact ⟨es, clock, hb.trans h1, h2, h3.dv hl, hm.trans h4⟩
 | loop L => obtain ⟨fn, tmps, defers, h1, h2, h3⟩ := h; exact ⟨fn, tmps, defers, hb.trans h1, h2, fun t => (h3 t).dv hl⟩
 | iter rest cur => obtain ⟨m, es, clock, seen, h1, h2, h3⟩ := h; exact ⟨m, es, clock, seen, hb.trans h1, hl.bo _ _ h2, h3.dv hl⟩
 | wB t l => obtain ⟨e1, e2, cur, vs, rest, h1, h2, h3, h4, h5, h6⟩ := h; exact ⟨e1, e2, cur, vs, rest, hb.trans h1, h2, h3, h4.dv hl, h5, fun o => (hi o).trans (h6 o)⟩
theorem ij.lt {g : Gh} {w : World} {p : Place} {x : Live} (h : ij g w p x) : p.aB < w.heap.size := by
 have : ∃ o, w.heap[p.aB]? = some o := by
  cases x with
  | box l => obtain ⟨cur, vs, rest, h1, _⟩ := h; exact ⟨_, h1⟩
  | tok t => obtain ⟨cur, h1, _⟩ := h; exact ⟨_, h1⟩
  | mp ks vs => obtain ⟨es, clock, h1, _⟩ := h; exact ⟨_, h1⟩
  | loop L => obtain ⟨fn, tmps, defers, h1, _⟩ := h; exact ⟨_, h1⟩
  | iter rest cur => obtain ⟨m, es, clock, seen, h1, _⟩ := h; exact ⟨_, h1⟩
  | wB t l => obtain ⟨_, _, cur, vs, rest, h1, _⟩ := h; exact ⟨_, h1⟩
 exact (gV.1 this.choose_spec).1
theorem ij.EN {g : Gh} {w : World} {p : Place} {x : Live} (h : ij g w p x) {r : Nat} {ds : Option (List Deferred)} (hr : w.heap[r]? = some (.deferred ds)) : p.aB ≠ r := by
 intro e
 subst e
 cases x with
 | box l => obtain ⟨cur, vs, rest, h1, _⟩ := h; rw [hr] at h1; cases h1
 | tok t => obtain ⟨cur, h1, _⟩ := h; rw [hr] at h1; cases h1
 | mp ks vs => obtain ⟨es, clock, h1, _⟩ := h; rw [hr] at h1; cases h1
 | loop L => obtain ⟨fn, tmps, defers, h1, _⟩ := h; rw [hr] at h1; cases h1
 | iter rest cur => obtain ⟨m, es, clock, seen, h1, _⟩ := h; rw [hr] at h1; cases h1
 | wB t l => obtain ⟨_, _, cur, vs, rest, h1, _⟩ := h; rw [hr] at h1; cases h1
theorem aS.change {g g' : Gh} {U : St} {w w' : World} (h : aS g U w) (B : Nat) (hB : g.base <= B) (hle : Gh.Le g g') (mM : g'.place = g.place) (hres : g'.res = g.res)
 (hw : w'.os = w.os /\ w'.tape = w.tape /\ w'.output = w.output /\ w.heap.size <= w'.heap.size) (hk : ∀ k, k ≠ B -> k < w.heap.size -> w'.heap[k]? = w.heap[k]?)
 (j5 : ∀ q o, q ≠ B -> g'.bI q o = g.bI q o) (NN : ∀ q, q ≠ B -> g'.bo q = g.bo q)
 (hi : ∀ o u, g'.bI B o = some u -> w'.cell? ⟨B, o, none⟩ = some u /\ u.oneCell' = true) (hm : ∀ es c, g'.bo B = some (es, c) -> w'.heap[B]? = some (.map es c) /\ gP es c)
 (gd : ∀ b x p, U.live b = some x -> g.place b = some p -> p.aB ≠ B) (Vy : g.res B = false) : aS g' U w' := by
 have aK : ∀ k o, w.heap[k]? = some o -> k ≠ B -> w'.heap[k]? = some o := fun k o WM hn => by rw [hk k hn (gV.1 WM).1]; exact WM
 exact {
  below := by
   rw [hle.base, hle.w0]
   exact h.below.trans ⟨hw.1, hw.2.1, hw.2.2.1, hw.2.2.2, fun k WL => hk k (by omega) (by have := h.le; omega)⟩
  le := by rw [hle.base]; exact Nat.le_trans h.le hw.2.2.2
  bI := fun q o u hu => by
   by_cases hq : q = B
   · subst hq; exact hi o u hu
   · rw [j5 q o hq] at hu
     rw [AM (hk q hq (h.Ii hu))]; exact h.bI _ _ _ hu
  bo := fun r es c hr => by
   by_cases hq : r = B
   · subst hq; exact hm es c hr
   · rw [NN r hq] at hr
     rw [hk r hq (h.EF hr)]; exact h.bo _ _ _ hr
  live := fun b x hb => by
   obtain ⟨p, h1, h2, h3⟩ := h.live b x hb
   have Ew := gd b x p hb h1
   refine ⟨p, by rw [mM]; exact h1, by rw [hle.base]; exact h2, h3.frame hle.r (hk _ Ew h3.lt) (fun o => j5 _ _ Ew) (NN _ Ew)⟩
  apart := fun b b' x x' p p' h1 h2 h3 h4 h5 => by rw [mM] at h3 h4; exact h.apart b b' x x' p p' h1 h2 h3 h4 h5
  res := fun r hr => by
   rw [hres] at hr
   obtain ⟨h1, h2⟩ := h.res r hr
   rw [hle.base]
   exact ⟨h1, aK _ _ h2 (fun e => by subst e; rw [Vy] at hr; cases hr)⟩
  fin := by rw [mM]; exact h.fin }
theorem aS.named {g : Gh} {U : St} {w : World} (h : aS g U w) {b : Nat} {p : Place} {x : Live} (hb : g.place b = some p) (hB : g.base <= p.aB) (hx : ij g w p x)
 (gd : ∀ b' x' p', b' ≠ b -> U.live b' = some x' -> g.place b' = some p' -> p'.aB ≠ p.aB) : aS g (U.set b x) w where
 below := h.below
 le := h.le
 bI := h.bI
 bo := h.bo
 live := fun b' x' cZ => by
  simp only [St.set] at cZ
  split at cZ
  · rename_i e; subst e; cases cZ; exact ⟨p, hb, hB, hx⟩
  · exact h.live b' x' cZ
 apart := fun b1 b2 x1 x2 p1 p2 h1 h2 h3 h4 h5 => by
  simp only [St.set] at h1 h2
  by_cases e1 : b1 = b <;> by_cases e2 : b2 = b
  · rw [e1, e2]
  · rw [if_neg e2] at h2
    subst e1; rw [hb] at h3; cases h3
    exact absurd h5.symm (gd _ _ _ e2 h2 h4)
  · rw [if_neg e1] at h1
    subst e2; rw [hb] at h4; cases h4
    exact absurd h5 (gd _ _ _ e1 h1 h3)
  · rw [if_neg e1] at h1; rw [if_neg e2] at h2
    exact h.apart _ _ _ _ _ _ h1 h2 h3 h4 h5
 res := h.res
 fin := h.fin
def Gh.kx (g : Gh) (b : Nat) (p : Place) : Gh := { g with place := fun y => if y = b then some p else g.place y }
theorem Gh.gm (g : Gh) (b : Nat) (p : Place) : (g.kx b p).place b = some p := by simp [Gh.kx]
theorem Gh.jT (g : Gh) {b y : Nat} (p : Place) (h : y ≠ b) : (g.kx b p).place y = g.place y := by simp [Gh.kx, h]
theorem Gh.wi {g : Gh} {b : Nat} (p : Place) (h : g.place b = none) : Gh.Le g (g.kx b p) :=
 ⟨rfl, rfl, fun y x hy => by rw [Gh.jT _ _ (fun e => by subst e; rw [h] at hy; cases hy)]; exact hy, fun _ _ _ h => h, fun _ _ h => h, fun _ h => h, fun _ _ _ => rfl, fun _ _ => rfl⟩
theorem aS.newName {g : Gh} {U : St} {w : World} (h : aS g U w) (p : Place) (hB : g.base <= p.aB) (gd : ∀ b' x' p', U.live b' = some x' -> g.place b' = some p' -> p'.aB ≠ p.aB) :
 ∃ b, U.cB b /\ Gh.Le g (g.kx b p) /\ ∀ x, ij (g.kx b p) w p x -> aS (g.kx b p) (U.new b x) w := by
 obtain ⟨N, Wz, WA⟩ := h.fin
 have Aa : g.place N = none := WA N (cG _)
 have WQ : U.live N = none := by
  cases e : U.live N with
  | none => rfl
  | some x => obtain ⟨p, h1, _⟩ := h.live N x e; rw [Aa] at h1; cases h1
 refine ⟨N, ⟨WQ, Wz⟩, Gh.wi p Aa, fun x hx => ?_⟩
 have hle := Gh.wi (g := g) p Aa
 have bW : ∀ b x, U.live b = some x -> b ≠ N := fun b x hb e => by subst e; rw [WQ] at hb; cases hb
 exact {
  below := h.below
  le := h.le
  bI := h.bI
  bo := h.bo
  live := fun b' x' cZ => by
   simp only [St.new] at cZ
   split at cZ
   · rename_i e; subst e; cases cZ; exact ⟨p, Gh.gm _ _ _, hB, hx⟩
   · obtain ⟨p', h1, h2, h3⟩ := h.live b' x' cZ
     exact ⟨p', hle.place _ _ h1, h2, h3.frame hle.r rfl (fun _ => rfl) rfl⟩
  apart := fun b1 b2 x1 x2 p1 p2 h1 h2 h3 h4 h5 => by
   simp only [St.new] at h1 h2
   by_cases e1 : b1 = N <;> by_cases e2 : b2 = N
   · rw [e1, e2]
   · rw [if_neg e2] at h2; rw [Gh.jT _ _ e2] at h4
     subst e1; rw [Gh.gm] at h3; cases h3
     exact absurd h5.symm (gd _ _ _ h2 h4)
   · rw [if_neg e1] at h1; rw [Gh.jT _ _ e1] at h3
     subst e2; rw [Gh.gm] at h4; cases h4
     exact absurd h5 (gd _ _ _ h1 h3)
   · rw [if_neg e1] at h1; rw [if_neg e2] at h2
     rw [Gh.jT _ _ e1] at h3; rw [Gh.jT _ _ e2] at h4
     exact h.apart _ _ _ _ _ _ h1 h2 h3 h4 h5
  res := h.res
  fin := ⟨N + 1, fun n hn => by
   simp only [St.new, lD] at hn
   obtain ⟨m, hm, rfl⟩ := hn
   rw [Wz m hm], fun b hb => by rw [Gh.jT _ _ (by omega)]; exact WA b (by omega)⟩ }
theorem aS.grow {g : Gh} {U : St} {w w' : World} (h : aS g U w) (hg : w.grownBy w' none) : aS g U w' := by
 have hb : ∀ k, k < w.heap.size -> w'.heap[k]? = w.heap[k]? := fun k hk => hg.block k hk (by simp)
 refine h.change w.heap.size h.le (Gh.Le.refl g) rfl rfl ⟨hg.os, hg.tape, hg.output, hg.size⟩ (fun k _ hk => hb k hk) (fun _ _ _ => rfl) (fun _ _ => rfl) (fun o u hu => ?_) (fun es c hr => ?_) (fun b x p h1 h2 => ?_) ?_
 · rw [h.vw (cG _)] at hu; cases hu
 · rw [h.sy (cG _)] at hr; cases hr
 · obtain ⟨p', k1, _, k3⟩ := h.live b x h1
   rw [h2] at k1; cases k1
   exact Nat.ne_of_lt k3.lt
 · cases e : g.res w.heap.size with
   | false => rfl
   | true => have := (gV.1 (h.res _ e).2).1; omega
theorem gQ (w : World) : w.grownBy w.drew none := ⟨rfl, rfl, rfl, cG _, fun _ _ _ => rfl⟩
theorem aS.zt {g : Gh} {U : St} {w : World} (h : aS g U w) {q : Nat} (hq : w.heap.size <= q) : g.res q = false := by
 cases e : g.res q with
 | false => rfl
 | true => have := (gV.1 (h.res _ e).2).1; omega
theorem aS.sM {g : Gh} {U : St} {w : World} (h : aS g U w) {b : Nat} {x : Live} {p : Place} (hb : U.live b = some x) (hp : g.place b = some p) : p.aB < w.heap.size := by
 obtain ⟨p', k1, _, k3⟩ := h.live b x hb
 rw [hp] at k1; cases k1
 exact k3.lt
theorem aS.pN {g : Gh} {U : St} {w : World} (h : aS g U w) {b : Nat} {x : Live} {p : Place} (hb : U.live b = some x) (hp : g.place b = some p) : g.res p.aB = false := by
 cases e : g.res p.aB with
 | false => rfl
 | true =>
   obtain ⟨p', k1, _, k3⟩ := h.live b x hb
   rw [hp] at k1; cases k1
   exact absurd rfl (k3.EN (h.res _ e).2)
theorem aS.pF {g : Gh} {U : St} {w : World} (h : aS g U w) (o : Obj) (e : TypeId) (size : Nat) (x : Live)
 (hx : ∀ g', Gh.Le g g' -> (∀ o, g'.bI w.heap.size o = none) -> g'.bo w.heap.size = none -> ij g' (w.alloc o) ⟨w.heap.size, e, size⟩ x) :
 ∃ b g', U.cB b /\ Gh.Le g g' /\ g'.place b = some ⟨w.heap.size, e, size⟩ /\ aS g' (U.new b x) (w.alloc o) := by
 have hs := h.grow (w.grownBy_alloc o none)
 obtain ⟨b, h1, h2, h3⟩ := hs.newName ⟨w.heap.size, e, size⟩ h.le (fun b' x' p' k1 k2 => Nat.ne_of_lt (h.sM k1 k2))
 exact ⟨b, _, h1, h2, Gh.gm _ _ _, h3 x (hx _ h2 (fun o => h.vw (cG _) o) (h.sy (cG _)))⟩
end Go.Rip
namespace Go.Rip
open Go.RowKit
def St.bN (U : St) (b : Nat) (l : List AV) : St := U.set b (.box l)
def St.VS (U : St) (b : Nat) (kv : List AV × List AV) : St := U.set b (.mp kv.1 kv.2)
theorem aS.box {g : Gh} {U : St} {w : World} (h : aS g U w) (b : Nat) (l : List AV) (hb : U.box b = some l) : ∃ x cur vs rest, g.box b = some x /\ g.base <= x.aB /\ w.heap[x.aB]? = some (.cells cur x.e (0, 0)) /\ cur.size = x.size /\ cur.toList = vs ++ rest /\ ax g l vs /\
 (∀ u ∈ cur.toList, u.oneCell' = true) /\ (∀ o, g.bI x.aB o = none) := by
 obtain ⟨y, hy, SF⟩ := St.pd hb
 obtain ⟨p, h1, h2, hp⟩ := h.live b _ hy
 obtain ⟨cur, vs, rest, h3, h4, h5, h6, h7, h8⟩ := SF _ _ _ hp
 exact ⟨p, cur, vs, rest, h1, h2, h3, h4, h5, h6, h7, h8⟩
theorem aS.tok {g : Gh} {U : St} {w : World} (h : aS g U w) (τ : Nat) (t : Tok) (ht : U.tok τ = some t) : ∃ aB c cur, g.tok τ = some (aB, c) /\ g.base <= aB /\ w.heap[aB]? = some (.cells cur t.e (0, 0)) /\ cur.size = c * t.size /\ t.n <= c /\ c <= maxLen /\
 (∀ o, t.n * t.size <= o -> g.bI aB o = none) := by
 obtain ⟨p, h1, h2, cur, h3, h4, h5, h6, h7⟩ := h.live τ _ (St.gO.1 ht)
 exact ⟨p.aB, p.size, cur, Gh.gO.2 ⟨p, h1, rfl, rfl⟩, h2, h3, h4, h5, h6, h7⟩
theorem aS.mp {g : Gh} {U : St} {w : World} (h : aS g U w) (m : Nat) (kv : List AV × List AV) (hm : U.mp m = some kv) : ∃ r es clock, g.mp m = some r /\ g.base <= r /\ w.heap[r]? = some (.map es clock) /\ gP es clock /\ sc g kv.1 kv.2 es /\ g.bo r = none := by
 obtain ⟨p, h1, h2, es, clock, h3, h4, h5, h6⟩ := h.live m _ (St.lO.1 hm)
 exact ⟨p.aB, es, clock, Gh.lO.2 ⟨p, h1, rfl⟩, h2, h3, h4, h5, h6⟩
theorem aS.rewrite {g : Gh} {U : St} {w w' : World} (h : aS g U w) {b : Nat} {x x' : Live} {p : Place} (hb : U.live b = some x) (hp : g.place b = some p)
 (hw : w'.os = w.os /\ w'.tape = w.tape /\ w'.output = w.output /\ w.heap.size <= w'.heap.size) (hk : ∀ k, k ≠ p.aB -> k < w.heap.size -> w'.heap[k]? = w.heap[k]?)
 (hi : ∀ o, g.bI p.aB o = none) (hm : g.bo p.aB = none) (hx : ij g w' p x') : aS g (U.set b x') w' := by
 obtain ⟨p', k1, k2, k3⟩ := h.live b x hb
 rw [hp] at k1; cases k1
 have gd : ∀ b' x' p', b' ≠ b -> U.live b' = some x' -> g.place b' = some p' -> p'.aB ≠ p.aB := fun b' x' p' bW h1 h2 e => bW (h.apart _ _ _ _ _ _ h1 hb h2 hp e)
 have hd : ∀ b' x' p', (U.del b).live b' = some x' -> g.place b' = some p' -> p'.aB ≠ p.aB := fun b' x' p' h1 h2 => by
  simp only [St.del] at h1
  split at h1
  · cases h1
  · rename_i e; exact gd _ _ _ e h1 h2
 have h1 := (h.weaken (St.pe U b)).change p.aB k2 (Gh.Le.refl g) rfl rfl hw hk (fun _ _ _ => rfl) (fun _ _ => rfl) (fun o u hu => by rw [hi] at hu; cases hu) (fun es c hr => by rw [hm] at hr; cases hr) hd (h.pN hb hp)
 have h2 := h1.named hp k2 hx (fun b' x' p' _ q1 q2 => hd b' x' p' q1 q2)
 have e : (U.del b).set b x' = U.set b x' := by
  simp only [St.del, St.set, St.mk.injEq, and_true]
  funext y
  split <;> rfl
 rw [<- e]; exact h2
theorem aS.cj {g : Gh} {U : St} {w : World} (h : aS g U w) (e : TypeId) (cur : Array Value) (vs rest : List Value) (l : List AV) (hc : cur.toList = vs ++ rest) (hl : ax g l vs) (h1 : ∀ u ∈ cur.toList, u.oneCell' = true) :
 ∃ b g', U.cB b /\ Gh.Le g g' /\ g'.box b = some ⟨w.heap.size, e, cur.size⟩ /\ aS g' (U.new b (.box l)) (w.alloc (.cells cur e)) :=
 h.pF (.cells cur e) e cur.size (.box l) fun g' hle hi hm => ⟨cur, vs, rest, heap_alloc_new w _, rfl, hc, hl.mono hle, h1, hi⟩
theorem aS.II {g : Gh} {U : St} {w : World} (h : aS g U w) (e : TypeId) (cur : Array Value) (vs rest : List Value) (hc : cur.toList = vs ++ rest) (h1 : ∀ u ∈ cur.toList, u.oneCell' = true) :
 ∃ g', Gh.Le g g' /\ ig g' w.heap.size 0 vs /\ (∀ o, vs.length <= o -> g'.bI w.heap.size o = none) /\ g'.place = g.place /\ aS g' U (w.alloc (.cells cur e)) := by
 let g' : Gh := { g with bI := fun aB o => if aB = w.heap.size then vs[o]? else g.bI aB o }
 have lX : ∀ o, g'.bI w.heap.size o = vs[o]? := fun o => by show (if w.heap.size = w.heap.size then _ else _) = _; rw [if_pos rfl]
 have hold : ∀ aB o, aB ≠ w.heap.size -> g'.bI aB o = g.bI aB o := fun aB o hx => by show (if aB = w.heap.size then _ else _) = _; rw [if_neg hx]
 have hle : Gh.Le g g' := ⟨rfl, rfl, fun _ _ h => h, fun aB o u hu => by
  rw [hold _ _ (fun e => by subst e; rw [h.vw (cG _)] at hu; cases hu)]; exact hu, fun _ _ h => h, fun _ h => h, fun q o hq => hold _ _ (by have := h.le; omega), fun _ _ => rfl⟩
 have hg := w.grownBy_alloc (.cells cur e) none
 refine ⟨g', hle, fun i u hu => by rw [cD, lX]; exact hu, fun o ho => by rw [lX]; simpa using ho, rfl, ?_⟩
 refine h.change w.heap.size h.le hle rfl rfl ⟨hg.os, hg.tape, hg.output, hg.size⟩ (fun k _ hk => hg.block k hk (by simp)) (fun q o hq => hold q o hq) (fun _ _ => rfl) (fun o u hu => ?_) (fun es c hr => ?_) (fun b x p k1 k2 => Nat.ne_of_lt (h.sM k1 k2)) (h.zt (cG _))
 · rw [lX] at hu
   have BV : cur[o]? = some u := by
    rw [<- gX, hc, pL (by
     rcases fT o vs.length with h | h
     · exact h
     · simp [mb h] at hu)]
    exact hu
   exact ⟨by rw [cell_of_row _ _ _ cur e (0, 0) (heap_alloc_new w _)]; exact BV, h1 u (fS (by rw [gX]; exact BV))⟩
 · have : g.bo w.heap.size = some (es, c) := hr
   rw [h.sy (cG _)] at this; cases this
theorem aS.jP {g : Gh} {U : St} {w : World} (h : aS g U w) {r : Nat} {c : Array Value} {e : TypeId} {f : Nat × Nat} (hh : w.heap[r]? = some (.cells c e f)) : g.bo r = none := by
 cases e : g.bo r with
 | none => rfl
 | some x => have := (h.bo r x.1 x.2 e).1; rw [hh] at this; cases this
theorem aS.setRow {g : Gh} {U : St} {w : World} (h : aS g U w) {b : Nat} {l l' : List AV} {x : Place} (hb : U.box b = some l) (hx : g.box b = some x)
 (cur : Array Value) (vs rest : List Value) (da : cur.size = x.size) (hc : cur.toList = vs ++ rest) (hl : ax g l' vs) (h1 : ∀ u ∈ cur.toList, u.oneCell' = true) :
 aS g (U.bN b l') (w.setRow x.aB cur) := by
 obtain ⟨x', RA, vs0, VP, k1, k2, k3, k4, k5, k6, k7, k8⟩ := h.box b l hb
 rw [hx] at k1; cases k1
 obtain ⟨y, hy, _⟩ := St.pd hb
 exact h.rewrite hy hx ⟨rfl, rfl, rfl, by simp⟩ (fun k hk _ => setRow_other _ _ _ _ hk) k8 (h.jP k3) ⟨cur, vs, rest, setRow_heap w x.aB RA cur x.e (0, 0) k3, da, hc, hl, h1, k8⟩
theorem aS.VO {g : Gh} {U : St} {w : World} (h : aS g U w) {b : Nat} {l : List AV} (hb : U.box b = some l) : aS g (U.bN b l) w := by
 obtain ⟨y, hy, SF⟩ := St.pd hb
 obtain ⟨p, h1, h2, hp⟩ := h.live b _ hy
 obtain ⟨cur, vs, rest, h3, h4, h5, h6, h7, h8⟩ := SF _ _ _ hp
 exact h.rewrite hy h1 ⟨rfl, rfl, rfl, cG _⟩ (fun _ _ _ => rfl) h8 (h.jP h3) ⟨cur, vs, rest, h3, h4, h5, h6, h7, h8⟩
theorem zk {cur cur' : Array Value} {a : Nat} {news : List Value} (ha : a <= cur.size) (Em : cur'.toList = cur.toList.take a ++ news ++ cur.toList.drop (a + news.length)) (o : Nat) :
 cur'[o]? = if o < a then cur[o]? else if o < a + news.length then news[o - a]? else cur[o]? := by
 rw [<- gX, Em, kf]
 have hl : (cur.toList.take a).length = a := by simp; omega
 by_cases h1 : o < a
 · rw [if_pos h1, pL (by omega), List.getElem?_take, if_pos h1, gX]
 · rw [if_neg h1, List.getElem?_append_right (by omega), hl]
   by_cases h2 : o < a + news.length
   · rw [if_pos h2, pL (by omega)]
   · rw [if_neg h2, List.getElem?_append_right (by omega), List.getElem?_drop, gX]
     congr 1; omega
theorem aS.TE {g : Gh} {U : St} {w : World} (h : aS g U w) {τ : Nat} {t : Tok} {aB c : Nat} (ht : U.tok τ = some t) (hg : g.tok τ = some (aB, c))
 (cur cur' : Array Value) (news : List Value) (m : Nat) (FV : w.heap[aB]? = some (.cells cur t.e (0, 0))) (hlen : news.length = m * t.size) (ly : t.n + m <= c)
 (Em : cur'.toList = cur.toList.take (t.n * t.size) ++ news ++ cur.toList.drop (t.n * t.size + news.length)) (h1 : ∀ u ∈ news, u.oneCell' = true) :
 ∃ qB g', (U.del τ).cB qB /\ Gh.Le g g' /\ g'.tok qB = some (aB, c) /\ ig g' aB (t.n * t.size) news /\ aS g' ((U.del τ).new qB (.tok ⟨t.n + m, t.e, t.size⟩)) (w.setRow aB cur') := by
 obtain ⟨p, hp, Ew, WW⟩ := Gh.gO.1 hg
 dsimp only at Ew WW
 subst Ew WW
 obtain ⟨p', k1, k2, RA, k3, k4, k5, k6, k7⟩ := h.live τ _ (St.gO.1 ht)
 rw [hp] at k1; cases k1
 rw [FV] at k3; cases k3
 have pk : (t.n + m) * t.size <= cur.size := by rw [k4]; exact Nat.mul_le_mul_right _ ly
 have z8 : (t.n + m) * t.size = t.n * t.size + news.length := by rw [hlen, Nat.add_mul]
 have da : cur'.size = cur.size := by
  have := congrArg List.length Em
  simp only [oE, ep, List.length_take, List.length_drop] at this
  omega
 let g' : Gh := { g with bI := fun q o => if q = p.aB /\ t.n * t.size <= o /\ o < t.n * t.size + news.length then news[o - t.n * t.size]? else g.bI q o }
 have j5 : ∀ q o, q ≠ p.aB -> g'.bI q o = g.bI q o := fun q o hq => by
  show (if _ then _ else _) = _
  rw [if_neg (fun e => hq e.1)]
 have hle : Gh.Le g g' := ⟨rfl, rfl, fun _ _ h => h, fun q o u hu => by
  show (if _ then _ else _) = _
  rw [if_neg (fun e => by obtain ⟨rfl, e2, _⟩ := e; rw [k7 o e2] at hu; cases hu)]; exact hu, fun _ _ h => h, fun _ h => h, fun q o hq => j5 _ _ (by omega), fun _ _ => rfl⟩
 have sw := setRow_heap w p.aB cur cur' t.e (0, 0) FV
 have oA := fun o => zk (cur := cur) (cur' := cur') (a := t.n * t.size) (news := news) (by omega) Em o
 have gd : ∀ b' x' p', (U.del τ).live b' = some x' -> g.place b' = some p' -> p'.aB ≠ p.aB := fun b' x' p' h1 h2 e => by
  simp only [St.del] at h1
  split at h1
  · cases h1
  · rename_i ne; exact ne (h.apart _ _ _ _ _ _ h1 (St.gO.1 ht) h2 hp e)
 have hs := (h.weaken (St.pe U τ)).change (w' := w.setRow p.aB cur') p.aB k2 hle rfl rfl ⟨rfl, rfl, rfl, by simp⟩ (fun k hk _ => setRow_other _ _ _ _ hk) j5 (fun _ _ => rfl) (fun o u hu => by
  rw [cell_of_row _ _ _ cur' t.e (0, 0) sw, oA]
  have lq : (if p.aB = p.aB /\ t.n * t.size <= o /\ o < t.n * t.size + news.length then news[o - t.n * t.size]? else g.bI p.aB o) = some u := hu
  by_cases ho : o < t.n * t.size
  · rw [if_pos ho]
    rw [if_neg (by omega)] at lq
    have := h.bI _ _ _ lq
    rw [cell_of_row _ _ _ cur t.e (0, 0) FV] at this
    exact this
  · rw [if_neg ho]
    by_cases NY : o < t.n * t.size + news.length
    · rw [if_pos NY]
      rw [if_pos ⟨rfl, by omega, NY⟩] at lq
      exact ⟨lq, h1 u (fS lq)⟩
    · rw [if_neg (by omega)] at lq
      rw [k7 o (by omega)] at lq; cases lq) (fun es c hr => by
  have hr : g.bo p.aB = some (es, c) := hr
  rw [h.jP FV] at hr; cases hr) gd (h.pN (St.gO.1 ht) hp)
 obtain ⟨qB, f1, f2, f3⟩ := hs.newName p k2 gd
 refine ⟨qB, _, f1, hle.trans f2, Gh.gO.2 ⟨p, Gh.gm _ _ _, rfl, rfl⟩, fun i u hu => ?_, f3 _ ⟨cur', sw, by rw [da]; exact k4, ly, k6, fun o ho => ?_⟩⟩
 · have hi : i < news.length := by
    rcases fT i news.length with h | h
    · exact h
    · simp [mb h] at hu
   show (if _ then _ else _) = _
   rw [if_pos ⟨rfl, by omega, by omega⟩, Nat.add_sub_cancel_left]; exact hu
 · have ho : (t.n + m) * t.size <= o := ho
   show (if _ then _ else _) = _
   rw [if_neg (by omega)]; exact k7 o (by omega)
theorem aS.rename {g : Gh} {U : St} {w : World} (h : aS g U w) {b : Nat} {x : Live} {p : Place} (hb : U.live b = some x) (hp : g.place b = some p) :
 ∃ b' g', (U.del b).cB b' /\ Gh.Le g g' /\ g'.place b' = some p /\ aS g' ((U.del b).new b' x) w := by
 obtain ⟨p', k1, k2, k3⟩ := h.live b x hb
 rw [hp] at k1; cases k1
 obtain ⟨b', f1, f2, f3⟩ := (h.weaken (St.pe U b)).newName p k2 (fun b' x' p' h1 h2 e => by
  simp only [St.del] at h1
  split at h1
  · cases h1
  · rename_i ne; exact ne (h.apart _ _ _ _ _ _ h1 hb h2 hp e))
 exact ⟨b', _, f1, f2, Gh.gm _ _ _, f3 x (k3.frame f2.r rfl (fun _ => rfl) rfl)⟩
theorem aS.jS {g : Gh} {U : St} {w : World} (h : aS g U w) (e : TypeId) (size n c : Nat) (cur : Array Value) (vs rest : List Value) (hc : cur.toList = vs ++ rest) (h1 : ∀ u ∈ cur.toList, u.oneCell' = true)
 (ux : vs.length = n * size) (pk : cur.size = c * size) (z7 : n <= c) (rA : c <= maxLen) :
 ∃ τ g', U.cB τ /\ Gh.Le g g' /\ g'.tok τ = some (w.heap.size, c) /\ ig g' w.heap.size 0 vs /\ aS g' (U.new τ (.tok ⟨n, e, size⟩)) (w.alloc (.cells cur e)) := by
 obtain ⟨g1, B2, j5, gd, mM, hs⟩ := h.II e cur vs rest hc h1
 obtain ⟨τ, f1, f2, f3⟩ := hs.newName ⟨w.heap.size, e, c⟩ (by rw [B2.base]; exact h.le) (fun b' x' p' k1 k2 => by rw [mM] at k2; exact Nat.ne_of_lt (h.sM k1 k2))
 exact ⟨τ, _, f1, B2.trans f2, Gh.gO.2 ⟨_, Gh.gm _ _ _, rfl, rfl⟩, j5, f3 _ ⟨cur, heap_alloc_new w _, pk, z7, rA, fun o ho => gd o (by rw [ux]; exact ho)⟩⟩
theorem aS.freeze {g : Gh} {U : St} {w : World} (h : aS g U w) {b : Nat} {l : List AV} {x : Place} (hb : U.box b = some l) (hx : g.box b = some x) :
 ∃ g' vs, Gh.Le g g' /\ g'.place = g.place /\ ig g' x.aB 0 vs /\ ax g l vs /\ aS g' (U.del b) w := by
 obtain ⟨x', cur, vs, rest, k1, k2, k3, k4, k5, k6, k7, k8⟩ := h.box b l hb
 rw [hx] at k1; cases k1
 let g' : Gh := { g with bI := fun q o => if q = x.aB then cur[o]? else g.bI q o }
 have lX : ∀ o, g'.bI x.aB o = cur[o]? := fun o => by show (if x.aB = x.aB then _ else _) = _; rw [if_pos rfl]
 have hold : ∀ q o, q ≠ x.aB -> g'.bI q o = g.bI q o := fun q o hq => by show (if q = x.aB then _ else _) = _; rw [if_neg hq]
 have hle : Gh.Le g g' := ⟨rfl, rfl, fun _ _ h => h, fun q o u hu => by
  rw [hold _ _ (fun e => by subst e; rw [k8] at hu; cases hu)]; exact hu, fun _ _ h => h, fun _ h => h, fun q o hq => hold _ _ (by omega), fun _ _ => rfl⟩
 refine ⟨g', vs, hle, rfl, fun i u hu => by
  have hi : i < vs.length := by
   rcases fT i vs.length with h | h
   · exact h
   · simp [mb h] at hu
  rw [cD, lX, <- gX, k5, pL hi]; exact hu, k6, ?_⟩
 obtain ⟨y, hy, _⟩ := St.pd hb
 refine (h.weaken (St.pe U b)).change x.aB k2 hle rfl rfl ⟨rfl, rfl, rfl, cG _⟩ (fun _ _ _ => rfl) hold (fun _ _ => rfl) (fun o u hu => ?_) (fun es c hr => ?_) (fun b' x' p' h1 h2 e => ?_) (h.pN hy hx)
 · rw [lX] at hu
   rw [cell_of_row _ _ _ cur x.e (0, 0) k3]
   exact ⟨hu, k7 u (fS (by rw [gX]; exact hu))⟩
 · have hr : g.bo x.aB = some (es, c) := hr
   rw [h.jP k3] at hr; cases hr
 · simp only [St.del] at h1
   split at h1
   · cases h1
   · rename_i ne; exact ne (h.apart _ _ _ _ _ _ h1 hy h2 hx e)
theorem aS.Je {g : Gh} {U : St} {w : World} (h : aS g U w) {m r : Nat} {kv kv' : List AV × List AV} {es rp : Array MapEntry} {clock rl : Nat} (hm : U.mp m = some kv) (hg : g.mp m = some r) (hh : w.heap[r]? = some (.map es clock))
 (h1 : sc g kv'.1 kv'.2 rp) (h2 : gP rp rl) :
 aS g (U.VS m kv') { w with heap := w.heap.setIfInBounds r (Obj.map rp rl) } := by
 obtain ⟨p, hp, rfl⟩ := Gh.lO.1 hg
 obtain ⟨p', k1, k2, es0, cl0, k3, k4, k5, k6⟩ := h.live m _ (St.lO.1 hm)
 rw [hp] at k1; cases k1
 have aK := (gV.1 hh).1
 have bW : ∀ k, k ≠ p.aB -> (w.heap.setIfInBounds p.aB (Obj.map rp rl))[k]? = w.heap[k]? := fun k hk => Array.getElem?_setIfInBounds_ne (Ne.symm hk)
 have lX : (w.heap.setIfInBounds p.aB (Obj.map rp rl))[p.aB]? = some (Obj.map rp rl) := by simp [aK]
 exact h.rewrite (St.lO.1 hm) hp ⟨rfl, rfl, rfl, by simp⟩ (fun k hk _ => bW k hk) (fun o => by
  cases e : g.bI p.aB o with
  | none => rfl
  | some u => have := (h.bI _ _ _ e).1; simp [World.cell?, hh] at this) k6 ⟨rp, rl, lX, h2, h1, k6⟩
theorem aS.shut {g : Gh} {U : St} {w : World} (h : aS g U w) {r : Nat} (hr : g.res r = true) : aS { g with res := fun x => if x = r then false else g.res x } U { w with heap := w.heap.setIfInBounds r (Obj.deferred none) } := by
 obtain ⟨k2, hh⟩ := h.res r hr
 have bW : ∀ k, k ≠ r -> (w.heap.setIfInBounds r (Obj.deferred none))[k]? = w.heap[k]? := fun k hk => Array.getElem?_setIfInBounds_ne (Ne.symm hk)
 have hl : Gh.pa g { g with res := fun x => if x = r then false else g.res x } := ⟨fun _ _ h => h, fun _ _ _ h => h, fun _ _ h => h⟩
 exact {
  below := h.below.trans ⟨rfl, rfl, rfl, by simp, fun k hk => bW k (by have := h.le; omega)⟩
  le := by simpa using h.le
  bI := fun aB o u hi => by
   have gK := h.bI _ _ _ hi
   have : World.cell? { w with heap := w.heap.setIfInBounds r (Obj.deferred none) } ⟨aB, o, none⟩ = w.cell? ⟨aB, o, none⟩ := by
    simp only [World.cell?]
    rw [bW aB (fun e => by subst e; simp [World.cell?, hh] at gK)]
   rw [this]; exact gK
  bo := fun r' es c hr => by
   obtain ⟨h1, h2⟩ := h.bo r' es c hr
   refine ⟨?_, h2⟩
   show (w.heap.setIfInBounds r (Obj.deferred none))[r']? = _
   rw [bW r' (fun e => by subst e; rw [hh] at h1; cases h1)]; exact h1
  live := fun b x hb => by
   obtain ⟨p, h1, h2, h3⟩ := h.live b x hb
   exact ⟨p, h1, h2, h3.frame hl (bW _ (h3.EN hh)) (fun _ => rfl) rfl⟩
  apart := h.apart
  res := fun r' pw => by
   have pw : (if r' = r then false else g.res r') = true := pw
   split at pw
   · cases pw
   · rename_i e
     obtain ⟨q1, q2⟩ := h.res r' pw
     exact ⟨q1, by show (w.heap.setIfInBounds r (Obj.deferred none))[r']? = _; rw [bW r' e]; exact q2⟩
  fin := h.fin }
theorem aS.PO {g : Gh} {U : St} {w : World} (h : aS g U w) : Gh.Le g { g with res := fun x => if x = w.heap.size then true else g.res x } /\ aS { g with res := fun x => if x = w.heap.size then true else g.res x } U (w.alloc (.deferred (some []))) := by
 have hl : Gh.pa g { g with res := fun x => if x = w.heap.size then true else g.res x } := ⟨fun _ _ h => h, fun _ _ _ h => h, fun _ _ h => h⟩
 refine ⟨⟨rfl, rfl, fun _ _ h => h, fun _ _ _ h => h, fun _ _ h => h, fun b hb => by show (if _ then _ else _) = _; split <;> simp_all, fun _ _ _ => rfl, fun _ _ => rfl⟩, ?_⟩
 have hs := h.grow (w.grownBy_alloc (.deferred (some [])) none)
 exact {
  below := hs.below
  le := hs.le
  bI := hs.bI
  bo := hs.bo
  live := fun b x hb => by
   obtain ⟨p, h1, h2, h3⟩ := hs.live b x hb
   exact ⟨p, h1, h2, h3.frame hl rfl (fun _ => rfl) rfl⟩
  apart := hs.apart
  res := fun r hr => by
   have hr : (if r = w.heap.size then true else g.res r) = true := hr
   split at hr
   · rename_i e; subst e; exact ⟨h.le, heap_alloc_new w _⟩
   · exact hs.res r hr
  fin := hs.fin }
end Go.Rip
namespace Go.Rip
open Go.RowKit
def iH : Value -> Option AV
 | .bool b => some (.bool b)
 | .int k n => some (.int k n)
 | .string s => some (.str s.data.toList)
 | .pointer none => some .aT
 | .slice none 0 0 => some .ag
 | .map none => some .jf
 | .nilFunc => some .cP
 | .nilIface => some .cA
 | _ => none
def Ll : Option (List AV) -> AV
 | some l => .agg l
 | none => .any
def zP : Value -> AV
 | .agg cs => Ll (cs.toList.mapM iH)
 | .func fn f c => if f.isEmpty && c.isEmpty then .func fn [] [] else .any
 | .tuple vs => if vs.isEmpty then .aN [] else .any
 | v => (iH v).getD .any
def yP : TypeDesc -> Bool
 | .struct _ | .array _ _ => true
 | _ => false
def kh (P : Program) (t : TypeId) : Option (Bool × Nat) :=
 match P.info? t, P.underlying t with
 | some i, some d => some (yP d, i.size)
 | _, _ => none
def lW (P : Program) (t : TypeId) : Option (List AV) := ((P.info? t).bind (·.zero)).bind fun z => z.cells.toList.mapM iH
def dH (P : Program) (t : TypeId) : Option (TypeId × Nat) :=
 match P.underlying t with
 | some (.slice e) => match P.info? e with
   | some i => match i.zero with
     | some z => if z.cells.size = i.size /\ 0 < i.size /\ i.bytes <= 32768 /\ z.cells.all (·.oneCell') then some (e, i.size) else none
     | none => none
   | none => none
 | _ => none
def uf (P : Program) (s : TypeId) (f : Nat) : Option Nat :=
 match P.underlying s with
 | some (.struct fields) => match fields[f]? with
   | some x => if P.cellsOf x.type ≠ 0 then some x.offset else none
   | none => none
 | _ => none
def vJ (P : Program) (t : TypeId) : Option (List (Nat × Nat)) :=
 match P.underlying t with
 | some (.struct fields) => if fields.all (fun f => (P.info? f.type).isSome) then some (fields.toList.map fun f => (f.offset, P.cellsOf f.type)) else none
 | _ => none
def dj (P : Program) (f : FuncId) : Bool :=
 match P.funcs[f]? with
 | some fn => fn.body.isSome && !(fn.name == "runtime.NumGoroutine")
 | none => false
structure bX where
 P : Program
 ui : Nat -> AV
 fixed : Nat -> Option (Array Value) := fun _ => none
def ff (C : bX) (g : Gh) : Prop := (∀ i, ao g (C.ui i) (.pointer (some ⟨i, 0, none⟩))) /\ ∀ i cs, C.fixed i = some cs -> i < g.base /\ ∃ t fr, g.w0.heap[i]? = some (.cells cs t fr)
theorem ff.mono {C : bX} {g g' : Gh} (h : ff C g) (hl : Gh.Le g g') : ff C g' := ⟨fun i => (h.1 i).mono hl, fun i cs hi => by rw [hl.base, hl.w0]; exact h.2 i cs hi⟩
structure Env where
 get : Nat -> AV
def Env.put (ρ : Env) (d : Nat) (v : AV) : Env := ⟨fun t => if t = d then v else ρ.get t⟩
def Env.dk (ρ : Env) : Option Nat -> AV -> Env
 | some d, v => ρ.put d v
 | none, _ => ρ
def Env.ev (C : bX) (ρ : Env) : Operand -> AV
 | .tmp t => ρ.get t
 | .const v => zP v
 | .global g => C.ui g
 | .func f => .func (.func f) [] []
def eE (g : Gh) (ρ : Env) (tmps : Array Value) : Prop := ∀ t, ao g (ρ.get t) (tmps.getD t undef)
theorem eE.mono {g g' : Gh} (h : Gh.Le g g') {ρ : Env} {tmps : Array Value} (hr : eE g ρ tmps) : eE g' ρ tmps := fun t => (hr t).mono h
theorem eE.put {g : Gh} {ρ : Env} {tmps : Array Value} (hr : eE g ρ tmps) {d : Nat} {x : AV} {v : Value} (hd : d < tmps.size) (hx : ao g x v) : eE g (ρ.put d x) (tmps.setIfInBounds d v) := fun t => by
 simp only [Env.put]
 by_cases ht : t = d
 · subst ht
   rw [if_pos rfl]
   simpa [Array.getD, hd] using hx
 · rw [if_neg ht]
   have := hr t
   simp only [Array.getD_eq_getD_getElem?] at this ⊢
   rw [Array.getElem?_setIfInBounds_ne (Ne.symm ht)]
   exact this
theorem uI {g : Gh} {v : Value} {x : AV} (h : iH v = some x) : ao g x v /\ v.oneCell' = true := by
 unfold iH at h
 split at h <;> first
  | (cases h; simp [ao, Value.oneCell']; done)
  | cases h
theorem dm {g : Gh} : ∀ {vs : List Value} {l : List AV}, vs.mapM iH = some l -> ax g l vs /\ ∀ u ∈ vs, u.oneCell' = true
 | [], l, h => by
   simp at h; subst h; simp [ax]
 | v :: vs, l, h => by
   simp only [List.mapM_cons, bind, Option.bind_eq_some_iff, pure, fL] at h
   obtain ⟨x, hx, l', z6, rfl⟩ := h
   obtain ⟨h1, h2⟩ := uI (g := g) hx
   obtain ⟨h3, h4⟩ := dm (g := g) z6
   refine ⟨by simp only [ax]; exact ⟨v, vs, rfl, h1, h3⟩, fun u hu => ?_⟩
   simp only [dA] at hu
   rcases hu with rfl | hu
   · exact h2
   · exact h4 u hu
theorem GL {g : Gh} (v : Value) : ao g ((iH v).getD .any) v := by
 cases h : iH v with
 | none => simp only [Option.getD_none, ao]
 | some x => exact (uI h).1
theorem yY {g : Gh} (v : Value) : ao g (zP v) v := by
 cases v with
 | agg cs =>
   simp only [zP]
   cases h : cs.toList.mapM iH with
   | none => simp only [Ll, ao]
   | some l => simp only [Ll, ao]; exact ⟨cs.toList, by simp, (dm (g := g) h).2, (dm h).1⟩
 | func fn f c =>
   simp only [zP]
   split
   · rename_i h
     simp only [bM, Array.isEmpty_iff] at h
     obtain ⟨rfl, rfl⟩ := h
     simp only [ao]; exact ⟨[], [], rfl, by simp [ax], by simp [ax]⟩
   · simp only [ao]
 | tuple vs =>
   simp only [zP]
   split
   · rename_i h
     simp only [Array.isEmpty_iff] at h
     subst h
     simp only [ao]; exact ⟨[], rfl, by simp [ax]⟩
   · simp only [ao]
 | _ => simp only [zP]; exact GL _
theorem ph {C : bX} {g : Gh} (hG : ff C g) {ρ : Env} {a : Act} (hr : eE g ρ a.tmps) (x : Operand) : ao g (ρ.ev C x) (a.eval x) := by
 cases x with
 | tmp t => exact hr t
 | const v => exact yY v
 | global i => exact hG.1 i
 | func f => simp only [Env.ev, Act.eval, ao]; exact ⟨[], [], rfl, by simp [ax], by simp [ax]⟩
inductive NV where
 | box
 | tok (n : Nat) (l : List AV)
 | ms (n fW : Nat) (e : TypeId)
 | mp
 | it
def NV.at (b : Nat) : NV -> AV
 | .box => .box b 0
 | .tok n l => .vec n (.own b) l
 | .ms n fW e => .ms b 0 n fW e
 | .mp => .mp b
 | .it => .it b
inductive aA where
 | val (v : AV)
 | iN (v : AV) (b : Nat) (x : Live)
 | new (k : NV) (del : Option Nat) (x : Live)
 | il (b : Nat) (l : List (AV × Live))
 | enter (f : FuncId) (args : List AV)
 | yield (l : Nat) (args : List AV)
 | panic (v : AV)
 | cond (p : Prop) [d : Decidable p] (r : aA)
 | bad
abbrev aA.cj (l : List AV) : aA := .new .box none (.box l)
abbrev aA.jS (n : Nat) (l : List AV) (del : Option Nat) (t : Tok) : aA := .new (.tok n l) del (.tok t)
abbrev aA.lf (n fW : Nat) (e : TypeId) (del : Option Nat) (l : List AV) : aA := .new (.ms n fW e) del (.box l)
abbrev aA.A7 : aA := .new .mp none (.mp [] [])
def St.oz (U : St) : Option Nat -> St
 | some b => U.del b
 | none => U
def aA.Fits (C : bX) (g : Gh) (U : St) : aA -> Result Next -> Prop
 | .val v, res => ∃ u w' g', (res = .ok (.value u) w' \/ (res = .ok .skip w' /\ u = undef)) /\ Gh.Le g g' /\ aS g' U w' /\ ao g' v u
 | .iN v b x, res => ∃ u w' g', (res = .ok (.value u) w' \/ (res = .ok .skip w' /\ u = undef)) /\ Gh.Le g g' /\ aS g' (U.set b x) w' /\ ao g' v u
 | .new k del x, res => ∃ u w' g' b, res = .ok (.value u) w' /\ (U.oz del).cB b /\ Gh.Le g g' /\ aS g' ((U.oz del).new b x) w' /\ ao g' (k.at b) u
 | .il b l, res => ∃ u w' g' v x, res = .ok (.value u) w' /\ (v, x) ∈ l /\ Gh.Le g g' /\ aS g' (U.set b x) w' /\ ao g' v u
 | .enter f args, res => ∃ vs w', res = .ok (.enter f (List.toArray vs)) w' /\ aS g U w' /\ ax g args vs
 | .yield o args, res => ∃ vs x w w', g.place o = some x /\ res = (Instr.yield x.aB (List.toArray vs)).run C.P w /\ w' = w /\ aS g U w /\ ax g args vs
 | .panic v, res => ∃ u w', res = .halt (.panic u) w' /\ aS g U w' /\ ao g v u
 | @aA.cond p _ r, res => p -> r.Fits C g U res
 | .bad, _ => True
theorem aO {C : bX} {g : Gh} {U : St} {w : World} {v : AV} {u : Value} (h : aS g U w) (hr : ao g v u) : aA.Fits C g U (.val v) (.ok (.value u) w) :=
 ⟨u, w, g, .inl rfl, Gh.Le.refl g, h, hr⟩
def pX (n : Int) : Prop := -9223372036854775808 <= n /\ n <= 9223372036854775807
instance (n : Int) : Decidable (pX n) := inferInstanceAs (Decidable (_ /\ _))
theorem tm {n : Int} (h : pX n) : IntKind.i64.wrap n = n := by
 obtain ⟨h1, h2⟩ := h
 have e : IntKind.i64.wrap n = if n % 18446744073709551616 >= 9223372036854775808 then n % 18446744073709551616 - 18446744073709551616 else n % 18446744073709551616 := by
  simp [IntKind.wrap, IntKind.bits, IntKind.signed]
 rw [e]
 split <;> omega
def rJ (P : Program) (t : TypeId) : Bool := match P.underlying t with | some .bool => true | _ => false
def gT (P : Program) (t : TypeId) : Bool := match P.underlying t with | some (.interface _) => true | _ => false
def jd (P : Program) (t : TypeId) : Bool := match P.underlying t with | some (.pointer _) => true | _ => false
def lY (P : Program) (t : TypeId) : Bool := match P.underlying t with | some (.slice _) => true | _ => false
def fA (k : IntKind) (n : Int) : aA :=
 match k with
 | .i64 => .cond (pX n) (.val (.int .i64 n))
 | k => .val (.int k (k.wrap n))
inductive FK where
 | i
 | s
 | b
def ln : List FK -> List AV -> List AV -> Option Bool
 | [], [], [] => some true
 | .i :: ks, .int k a :: xs, .int k' b :: ys => if k = k' then (ln ks xs ys).map fun r => (a == b) && r else none
 | .s :: ks, .str a :: xs, .str b :: ys => (ln ks xs ys).map fun r => (a == b) && r
 | .b :: ks, .bool a :: xs, .bool b :: ys => (ln ks xs ys).map fun r => (a == b) && r
 | _, _, _ => none
def HH (P : Program) (f : Field) (i : Nat) : Option FK :=
 if f.offset = i /\ f.name ≠ "_" then
  match P.underlying f.type with
  | some .bool => some .b
  | some (.int _) => some .i
  | some .string => some .s
  | _ => none
 else none
def rq (P : Program) : List Field -> Nat -> Option (List FK)
 | [], _ => some []
 | f :: fs, i => match HH P f i, rq P fs (i + 1) with
   | some k, some ks => some (k :: ks)
   | _, _ => none
def FE (P : Program) (t : TypeId) : Option (List FK) :=
 match P.underlying t with
 | some (.struct fields) => if P.stoodInHeld t = false /\ P.eqGuardType P.depth t = false then rq P fields.toList 0 else none
 | _ => none
def Eg (P : Program) (t : TypeId) (a b : List AV) : Option Bool :=
 match FE P t with
 | some ks => ln ks a b
 | none => none
def rh (f : Bool -> AV) : Option Bool -> aA
 | some r => .val (f r)
 | none => .bad
def Fo (P : Program) (op : BinOp) (t : TypeId) (x y : AV) : aA :=
 match op, x, y with
 | .add, .int k a, .int k' b => if k = k' then fA k (a + b) else .bad
 | .sub, .int k a, .int k' b => if k = k' then fA k (a - b) else .bad
 | .mul, .int k a, .int k' b => if k = k' then fA k (a * b) else .bad
 | .quo, .int k a, .int k' b => if k = k' then .cond (b ≠ 0) (fA k (a.tdiv b)) else .bad
 | .rem, .int k a, .int k' b => if k = k' then .cond (b ≠ 0) (.val (.int k (a.tmod b))) else .bad
 | .and, .int k a, .int k' b => if k = k' then .val (.int k (k.wrap (BitVec.ofInt k.bits a &&& BitVec.ofInt k.bits b).toNat)) else .bad
 | .or, .int k a, .int k' b => if k = k' then .val (.int k (k.wrap (BitVec.ofInt k.bits a ||| BitVec.ofInt k.bits b).toNat)) else .bad
 | .eql, .int k a, .int k' b => if k = k' then .val (.bool (a == b)) else .bad
 | .neq, .int k a, .int k' b => if k = k' then .val (.bool (a != b)) else .bad
 | .lss, .int k a, .int k' b => if k = k' then .val (.bool (decide (a < b))) else .bad
 | .leq, .int k a, .int k' b => if k = k' then .val (.bool (decide (a <= b))) else .bad
 | .gtr, .int k a, .int k' b => if k = k' then .val (.bool (decide (a > b))) else .bad
 | .geq, .int k a, .int k' b => if k = k' then .val (.bool (decide (a >= b))) else .bad
 | .eql, .str a, .str b => .val (.bool (a == b))
 | .neq, .str a, .str b => .val (.bool (a != b))
 | .add, .str a, .str b => .cond (a.length + b.length <= 4294967296) (.val (.str (a ++ b)))
 | .eql, .bool a, .bool b => if rJ P t = true then .val (.bool (a == b)) else .bad
 | .neq, .bool a, .bool b => if rJ P t = true then .val (.bool (a != b)) else .bad
 | .eql, .agg a, .agg b => rh .bool (Eg P t a b)
 | .neq, .agg a, .agg b => rh (fun r => .bool (!r)) (Eg P t a b)
 | .eql, .iface _ _, .cA => if gT P t = true then .val (.bool false) else .bad
 | .neq, .iface _ _, .cA => if gT P t = true then .val (.bool true) else .bad
 | .eql, .aT, .aT => if jd P t = true then .val (.bool true) else .bad
 | .eql, .box _ _, .aT => if jd P t = true then .val (.bool false) else .bad
 | .neq, .aT, .aT => if jd P t = true then .val (.bool false) else .bad
 | .neq, .box _ _, .aT => if jd P t = true then .val (.bool true) else .bad
 | .eql, .bY _, .aT => if jd P t = true then .val (.bool false) else .bad
 | .neq, .bY _, .aT => if jd P t = true then .val (.bool true) else .bad
 | .eql, .ag, .ag => if lY P t = true then .val (.bool true) else .bad
 | .eql, .vec _ _ _, .ag => if lY P t = true then .val (.bool false) else .bad
 | .eql, .ms _ _ _ _ _, .ag => if lY P t = true then .val (.bool false) else .bad
 | _, _, _ => .bad
def isLit : Operand -> Bool
 | .const _ => true
 | _ => false
def Bv (P : Program) (op : BinOp) (t : TypeId) (lit : Bool) (x y : AV) : aA :=
 match op, x, y with
 | .eql, .cA, .cA => if gT P t = true /\ lit = true then .val (.bool true) else .bad
 | .neq, .cA, .cA => if gT P t = true /\ lit = true then .val (.bool false) else .bad
 | op, x, y => Fo P op t x y
end Go.Rip
namespace Go.Rip
open Go.RowKit
def AV.scalar : AV -> Bool
 | .agg _ | .aN _ | .any => false
 | _ => true
def au : AV -> List AV
 | .agg l => l
 | v => [v]
theorem zw {g : Gh} {x : AV} {v : Value} (h : ao g x v) (hs : x.scalar = true) : v.oneCell' = true := by
 cases x <;> simp only [AV.scalar, bu] at hs <;> simp only [ao] at h
 all_goals first
  | (subst h; rfl)
  | (obtain ⟨_, _, rfl⟩ := h; rfl)
  | (obtain ⟨_, _, _, rfl, _⟩ := h; rfl)
  | (obtain ⟨_, _, _, _, rfl, _⟩ := h; rfl)
  | (obtain ⟨_, _, _, rfl, _⟩ := h; rfl)
  | (obtain ⟨_, _, rfl, _⟩ := h; rfl)
  | (obtain ⟨_, rfl, _⟩ := h; rfl)
  | (obtain ⟨_, _, _, _, rfl, _⟩ := h; rfl)
def AV.cC : AV -> Bool
 | .aN _ | .any => false
 | _ => true
theorem tY {g : Gh} {x : AV} {v : Value} (h : ao g x v) (hs : x.cC = true) : ax g (au x) v.cells.toList /\ ∀ u ∈ v.cells.toList, u.oneCell' = true := by
 by_cases ha : ∃ l, x = .agg l
 · obtain ⟨l, rfl⟩ := ha
   simp only [ao] at h
   obtain ⟨vs, rfl, h1, h2⟩ := h
   exact ⟨by simpa [au, Value.cells] using h2, by simpa [Value.cells] using h1⟩
 · have N4 : x.scalar = true := by cases x <;> simp_all [AV.cC, AV.scalar]
   have h1 := zw h N4
   have hc : au x = [x] := by cases x <;> simp_all [au]
   have hv : v.cells = #[v] := by cases v <;> simp_all [Value.cells, Value.oneCell']
   rw [hc, hv]
   exact ⟨by simp only [ax]; exact ⟨v, [], rfl, h, rfl⟩, by simpa using h1⟩
def ja (U : St) : AV -> Option (List AV)
 | .box b off => (U.box b).map (·.drop off)
 | .bY l => some l
 | _ => none
theorem nS {g : Gh} {U : St} {w : World} (h : aS g U w) {p : AV} {v : Value} {l : List AV} (hp : ao g p v) (hl : ja U p = some l) :
 ∃ a vs, v = .pointer (some a) /\ a.spot = none /\ ax g l vs /\ ∀ j u, vs[j]? = some u -> w.cell? (a.add j) = some u /\ u.oneCell' = true := by
 have gR : ∀ aB off j, (⟨aB, off, none⟩ : Addr).add j = ⟨aB, off + j, none⟩ := fun aB off j => by unfold Addr.add; split <;> simp_all
 cases p <;> simp only [ja, reduceCtorEq] at hl
 · rename_i b off
   cases hb : U.box b with
   | none => simp [hb] at hl
   | some l0 =>
     simp [hb] at hl
     subst hl
     simp only [ao] at hp
     obtain ⟨x, hx, rfl⟩ := hp
     obtain ⟨x', cur, vs, rest, k1, k2, k3, k4, k5, k6, k7, k8⟩ := h.box b l0 hb
     rw [hx] at k1; cases k1
     refine ⟨⟨x.aB, off, none⟩, vs.drop off, rfl, rfl, k6.drop off, fun j u hu => ?_⟩
     rw [gR, cell_of_row _ _ _ cur x.e (0, 0) k3]
     rw [List.getElem?_drop] at hu
     have aK : off + j < vs.length := by
      rcases fT (off + j) vs.length with h | h
      · exact h
      · simp [mb h] at hu
     have : cur[off + j]? = some u := by rw [<- gX, k5, pL aK]; exact hu
     exact ⟨this, k7 u (fS (by rw [gX]; exact this))⟩
 · cases hl
   simp only [ao] at hp
   obtain ⟨aB, off, vs, rfl, hi, hr⟩ := hp
   exact ⟨⟨aB, off, none⟩, vs, rfl, rfl, hr, fun j u hu => by rw [gR]; exact h.bI _ _ _ (hi j u hu)⟩
def fl : List AV -> aA
 | x :: _ => .val x
 | [] => .bad
def qk (P : Program) (t : TypeId) (p : AV) (U : St) : aA :=
 match kh P t, ja U p with
 | some (true, sz), some l => .cond (sz <= l.length) (.val (.agg (l.take sz)))
 | some (false, _), some l => fl l
 | _, _ => .bad
theorem kS {P : Program} {t : TypeId} {b : Bool} {sz : Nat} (h : kh P t = some (b, sz)) :
 ∃ i d, P.info? t = some i /\ P.underlying t = some d /\ yP d = b /\ i.size = sz := by
 unfold kh at h
 split at h
 · rename_i i d hi hd
   simp only [fL, ji] at h
   exact ⟨i, d, hi, hd, h.1, h.2⟩
 · cases h
theorem iv {P : Program} {t : TypeId} {d : TypeDesc} (h : P.underlying t = some d) (w : World) : (isAgg t).run P w = .ok (yP d) w := by
 simp only [isAgg, bC, run_underlying h, bQ]
 cases d <;> rfl
theorem dp {P : Program} {t : TypeId} {i : TypeInfo} (h : P.info? t = some i) (w : World) : (sizeOf t).run P w = .ok i.size w := by
 simp [sizeOf, typeInfo, h]
section
variable {C : bX} {g : Gh} {U : St} {w : World}
theorem Gm (h : aS g U w) {t : TypeId} {p : AV} {v : Value} (hp : ao g p v) : aA.Fits C g U (qk C.P t p U) ((do let x <- Instr.loadAt t v; pure (Next.value x) : Sem Next).run C.P w) := by
 unfold qk
 split
 · rename_i b sz l hv hl
   obtain ⟨i, d, hi, hd, hb, da⟩ := kS hv
   obtain ⟨a, vs, rfl, ha, hr, hc⟩ := nS h hp hl
   intro hle
   have hlen := hr.length
   have eQ : (loadCells a (vs.take sz).length).run C.P w = .ok (vs.take sz).toArray w :=
    run_loadCells_list (P := C.P) w a (vs.take sz) fun j u hu => by
     rw [List.getElem?_take] at hu
     split at hu
     · exact (hc j u hu).1
     · cases hu
   have pr : (vs.take sz).length = sz := by simp; omega
   rw [pr] at eQ
   simp only [Instr.loadAt, Instr.sureAddr, loadVar, bC, bT, bQ, iv hd, hb, if_true, dp hi, da, eQ, dE]
   have HN : ∀ u ∈ vs.take sz, u.oneCell' = true := fun u hu => by
    obtain ⟨j, hj⟩ := List.getElem?_of_mem hu
    rw [List.getElem?_take] at hj
    split at hj
    · exact (hc j u hj).2
    · cases hj
   exact aO h (by simp only [ao]; exact ⟨_, rfl, HN, hr.take sz⟩)
 · rename_i b sz l hv hl
   obtain ⟨i, d, hi, hd, hb, da⟩ := kS hv
   obtain ⟨a, vs, rfl, ha, hr, hc⟩ := nS h hp hl
   cases l with
   | nil => trivial
   | cons x xs =>
     simp only [ax] at hr
     obtain ⟨u, us, rfl, h1, h2⟩ := hr
     have := (hc 0 u rfl).1
     have h0 : a.add 0 = a := by simp [Addr.add]
     rw [h0] at this
     simp only [Instr.loadAt, Instr.sureAddr, loadVar, bC, bT, bQ, iv hd, hb, bu, if_false, run_load, this, dE]
     exact aO h h1
 · trivial
def aw (l : List AV) (off : Nat) (cs : List AV) : List AV := l.take off ++ cs ++ l.drop (off + cs.length)
def C9 (P : Program) (t : TypeId) (p v : AV) (U : St) : aA :=
 match kh P t, p with
 | some (_, sz), .box b off => match U.box b with
   | some l => .cond (v.cC = true /\ (au v).length = sz /\ off + sz <= l.length) (.iN (.aN []) b (.box (aw l off (au v))))
   | none => .bad
 | _, _ => .bad
theorem rV (h : aS g U w) {b off : Nat} {l : List AV} {x : Place} (hb : U.box b = some l) (hx : g.box b = some x) {cs : List AV} {us : List Value} (hr : ax g cs us) (h1 : ∀ u ∈ us, u.oneCell' = true)
 (ly : off + cs.length <= l.length) : ∃ w', (storeCells ⟨x.aB, off, none⟩ us).run C.P w = .ok () w' /\ aS g (U.bN b (aw l off cs)) w' := by
 obtain ⟨x', cur, vs, rest, k1, k2, k3, k4, k5, k6, k7, k8⟩ := h.box b l hb
 rw [hx] at k1; cases k1
 have B1 := hr.length
 have pr := k6.length
 have da : cur.size = vs.length + rest.length := by rw [<- oE, k5, ep]
 have eQ := run_storeCells_at C.P x.aB off x.e us 0 cur w k3 (by omega) h1
 simp only [Nat.add_zero] at eQ
 refine ⟨_, eQ, ?_⟩
 have e : cur.toList.take off ++ us ++ cur.toList.drop (off + us.length) = (vs.take off ++ us ++ vs.drop (off + us.length)) ++ rest := by
  rw [k5, List.take_append_of_le_length (by omega), List.drop_append_of_le_length (by omega)]
  simp
 refine h.setRow hb hx _ (vs.take off ++ us ++ vs.drop (off + us.length)) rest ?_ (by simpa using e) ?_ ?_
 · rw [<- oE]
   have := congrArg List.length e
   simp only [ep, List.length_take, List.length_drop] at this
   simp only [ep, List.length_take, List.length_drop, oE] at this ⊢
   omega
 · unfold aw
   rw [B1]
   exact ((k6.take off).append hr).append (k6.drop _)
 · intro u hu
   simp only [eH] at hu
   rcases hu with (hu | hu) | hu
   · exact k7 u (List.mem_of_mem_take hu)
   · exact h1 u hu
   · exact k7 u (List.mem_of_mem_drop hu)
theorem D5 (h : aS g U w) {t : TypeId} {p x : AV} {v u : Value} (hp : ao g p v) (hx : ao g x u) : aA.Fits C g U (C9 C.P t p x U) ((do Instr.storeAt t v u; pure Next.skip : Sem Next).run C.P w) := by
 unfold C9
 split
 · rename_i bb sz b off hv
   split
   · rename_i l hb
     rintro ⟨h1, h2, h3⟩
     obtain ⟨i, d, hi, hd, _, da⟩ := kS hv
     obtain ⟨xN, vX⟩ := tY hx h1
     simp only [ao] at hp
     obtain ⟨y, hy, rfl⟩ := hp
     obtain ⟨w', eQ, hs⟩ := rV (C := C) h hb hy xN vX (by rw [h2]; exact h3)
     have hlen : u.cells.size = sz := by rw [<- oE, xN.length]; exact h2
     simp only [Instr.storeAt, Instr.sureAddr, storeVar, bC, bT, bQ, dp hi, da, hlen, ne_eq, not_true_eq_false, if_false, dE, eQ]
     exact ⟨undef, w', g, .inr ⟨rfl, rfl⟩, Gh.Le.refl g, hs, by simp only [ao]; exact ⟨[], rfl, by simp [ax]⟩⟩
   · trivial
 · trivial
def Br (t : TypeId) : List AV -> aA
 | [.aT, .ag] => .new .box none (.wB t [.aT, .ag])
 | l => .cj l
def Bq (P : Program) (t : TypeId) : aA :=
 match lW P t with
 | some l => Br t l
 | none => .bad
theorem jM {P : Program} {t : TypeId} {l : List AV} (hz : lW P t = some l) : ∃ i z, P.info? t = some i /\ i.zero = some z /\ z.cells.toList.mapM iH = some l := by
 unfold lW at hz
 cases hi : P.info? t with
 | none => simp [hi] at hz
 | some i =>
   cases pB : i.zero with
   | none => simp [hi, pB] at hz
   | some z => simp [hi, pB] at hz; exact ⟨i, z, rfl, pB, hz⟩
theorem eB {P : Program} {t : TypeId} {i : TypeInfo} {z : Value} (hi : P.info? t = some i) (hz : i.zero = some z) (w : World) : (zeroValue t).run P w = .ok z w := by
 simp [zeroValue, typeInfo, hi, hz]
theorem wo (h : aS g U w) (e : TypeId) {l : List AV} {cur : Array Value} (hl : ax g l cur.toList) (h1 : ∀ u ∈ cur.toList, u.oneCell' = true) :
 aA.Fits C g U (.cj l) (.ok (.value (.pointer (some ⟨w.heap.size, 0, none⟩))) (w.alloc (.cells cur e))) := by
 obtain ⟨b, g', hb, hle, hx, hs⟩ := h.cj e cur cur.toList [] l (by simp) hl h1
 exact ⟨_, _, g', b, rfl, hb, hle, hs, by simp only [NV.at, ao]; exact ⟨_, hx, rfl⟩⟩
theorem Ds (h : aS g U w) {t : TypeId} : aA.Fits C g U (Bq C.P t) ((do let x <- Instr.alloc t true (.tuple #[]); pure (Next.value x) : Sem Next).run C.P w) := by
 unfold Bq
 split
 · rename_i l hz
   obtain ⟨i, z, hi, pB, hm⟩ := jM hz
   obtain ⟨h1, h2⟩ := dm (g := g) hm
   simp only [Instr.alloc, newVar, newRow, bC, bT, bQ, eB hi pB, run_newObj]
   unfold Br
   split
   · have hlen := h1.length
     obtain ⟨b, g', hb, hle, hx, hs⟩ := h.pF (.cells z.cells t) t z.cells.size (.wB t [.aT, .ag]) fun g' hle hi hm => ⟨rfl, by simpa using hlen, z.cells, z.cells.toList, [], heap_alloc_new w _, rfl, by simp, h1.mono hle, h2, hi⟩
     exact ⟨_, _, g', b, rfl, hb, hle, hs, by simp only [NV.at, ao]; exact ⟨_, hx, rfl⟩⟩
   · exact wo h t h1 h2
 · trivial
def ez (v : AV) : aA := .cond (v.cC = true) (.cj (au v))
theorem Hr (h : aS g U w) {t : TypeId} {x : AV} {u : Value} (hx : ao g x u) : aA.Fits C g U (ez x) ((do let y <- Instr.box t u; pure (Next.value y) : Sem Next).run C.P w) := by
 intro hl
 obtain ⟨h1, h2⟩ := tY hx hl
 simp only [Instr.box, newVar, newRow, bC, bT, bQ, run_newObj]
 exact wo h t h1 h2
def bh (x : AV) : aA :=
 match x with
 | .box _ _ | .bY _ | .func (.func _) _ _ => .val x
 | _ => .bad
def sk (P : Program) (s : TypeId) (p : AV) (f : Nat) : aA :=
 match uf P s f, p with
 | some o, .box b off => .val (.box b (off + o))
 | some o, .bY l => .val (.bY (l.drop o))
 | _, _ => .bad
theorem DF {P : Program} {s : TypeId} {f o : Nat} (h : uf P s f = some o) : ∃ fs x, P.underlying s = some (.struct fs) /\ fs[f]? = some x /\ P.cellsOf x.type ≠ 0 /\ x.offset = o := by
 unfold uf at h
 split at h
 · rename_i fs hu
   split at h
   · rename_i x hx
     split at h
     · rename_i hc; cases h; exact ⟨fs, x, hu, hx, hc, rfl⟩
     · cases h
   · cases h
 · cases h
theorem sA {aB off n : Nat} {vs : List Value} (h : ig g aB off vs) : ig g aB (off + n) (vs.drop n) := fun i u hu => by
 rw [List.getElem?_drop] at hu
 have := h (n + i) u hu
 rwa [Nat.add_assoc]
theorem xE (h : aS g U w) {s f : Nat} {p : AV} {v : Value} (hp : ao g p v) : aA.Fits C g U (sk C.P s p f) ((do let x <- Instr.fieldAt s v f; pure (Next.value x) : Sem Next).run C.P w) := by
 have gR : ∀ aB off j, (⟨aB, off, none⟩ : Addr).add j = ⟨aB, off + j, none⟩ := fun aB off j => by unfold Addr.add; split <;> simp_all
 have key : ∀ (o : Nat) (aB off : Nat), uf C.P s f = some o -> v = .pointer (some ⟨aB, off, none⟩) ->
  ((do let x <- Instr.fieldAt s v f; pure (Next.value x) : Sem Next).run C.P w) = .ok (.value (.pointer (some ⟨aB, off + o, none⟩))) w := fun o aB off ho hv => by
  obtain ⟨fs, x, hu, hx, hc, rfl⟩ := DF ho
  subst hv
  obtain ⟨i, hi, Z9⟩ : ∃ i, C.P.info? x.type = some i /\ i.size = C.P.cellsOf x.type := by
   cases hi : C.P.info? x.type with
   | none => simp [Program.cellsOf, hi] at hc
   | some i => exact ⟨i, rfl, by simp [Program.cellsOf, hi]⟩
  simp only [Instr.fieldAt, bC, bT, bQ, run_underlying hu, hx, Instr.sureAddr, fieldPlace, dp hi, Z9, if_neg hc, dE, gR]
 unfold sk
 split
 · rename_i o b off ho
   simp only [ao] at hp
   obtain ⟨x, hx, hv⟩ := hp
   rw [key o x.aB off ho hv]
   exact aO h (by simp only [ao]; exact ⟨x, hx, rfl⟩)
 · rename_i o l ho
   simp only [ao] at hp
   obtain ⟨aB, off, vs, hv, hi, hr⟩ := hp
   rw [key o aB off ho hv]
   exact aO h (by simp only [ao]; exact ⟨aB, off + o, vs.drop o, rfl, sA hi, hr.drop o⟩)
 · trivial
theorem fw {P : Program} {t e : TypeId} {sz : Nat} (h : dH P t = some (e, sz)) :
 ∃ i z, P.underlying t = some (.slice e) /\ P.info? e = some i /\ i.zero = some z /\ z.cells.size = sz /\ i.size = sz /\ 0 < sz /\ i.bytes <= 32768 /\ (∀ u ∈ z.cells.toList, u.oneCell' = true) := by
 unfold dH at h
 split at h
 · rename_i e' hu
   split at h
   · rename_i i hi
     split at h
     · rename_i z hz
       split at h
       · rename_i hc
         simp only [fL, ji] at h
         obtain ⟨rfl, rfl⟩ := h
         refine ⟨i, z, hu, hi, hz, hc.1, rfl, hc.2.1, hc.2.2.1, fun u hu => ?_⟩
         have := hc.2.2.2
         rw [Array.all_eq_true_iff_forall_mem] at this
         exact this u (by simpa using hu)
       · cases h
     · cases h
   · cases h
 · cases h
def qE (P : Program) (t : TypeId) : Option (Nat × TypeId × Nat) :=
 match P.underlying t with
 | some (.array n e) => match P.info? e with
   | some i => some (n, e, i.size)
   | none => none
 | _ => none
theorem pY {P : Program} {t e : TypeId} {n sz : Nat} (h : qE P t = some (n, e, sz)) : ∃ i, P.underlying t = some (.array n e) /\ P.info? e = some i /\ i.size = sz := by
 unfold qE at h
 split at h
 · rename_i n' e' hu
   split at h
   · rename_i i hi
     simp only [fL, ji] at h
     obtain ⟨rfl, rfl, rfl⟩ := h
     exact ⟨i, hu, hi, rfl⟩
   · cases h
 · cases h
def Hm (P : Program) (t : TypeId) (x i : AV) : aA :=
 match qE P t, x, i with
 | some (n, _, sz), .bY l, .int _ j => .cond (0 <= j /\ j < n) (.val (.bY (l.drop (j.toNat * sz))))
 | some (n, _, sz), .box b off, .int _ j => .cond (0 <= j /\ j < n) (.val (.box b (off + j.toNat * sz)))
 | _, _, _ => .bad
def sB (P : Program) (t : TypeId) (x i : AV) : aA :=
 match dH P t, x, i with
 | none, x, i => Hm P t x i
 | some (_, sz), .vec n _ l, .int _ j => .cond (0 <= j /\ j < n) (.val (.bY (l.drop (j.toNat * sz))))
 | some (_, sz), .ms b off n fW _, .int _ j => .cond (0 <= j /\ j < n /\ fW = sz) (.val (.box b (off + j.toNat * sz)))
 | _, _, _ => .bad
theorem x5 (h : aS g U w) {t : TypeId} {x y : AV} {v u : Value} (hx : ao g x v) (hy : ao g y u) : aA.Fits C g U (sB C.P t x y) ((do let x <- Instr.indexAt t v u; pure (Next.value x) : Sem Next).run C.P w) := by
 have gR : ∀ aB off j, (⟨aB, off, none⟩ : Addr).add j = ⟨aB, off + j, none⟩ := fun aB off j => by unfold Addr.add; split <;> simp_all
 have key : ∀ (e : TypeId) (sz : Nat) (aB off n c : Nat) (k : IntKind) (j : Int), dH C.P t = some (e, sz) -> v = .slice (some ⟨aB, off, none⟩) n c -> u = .int k j -> 0 <= j -> j < n ->
  ((do let x <- Instr.indexAt t v u; pure (Next.value x) : Sem Next).run C.P w) = .ok (.value (.pointer (some ⟨aB, off + j.toNat * sz, none⟩))) w := fun e sz aB off n c k j ho hv hu h0 h1 => by
  obtain ⟨i, z, lq, hi, hz, _, da, _⟩ := fw ho
  subst hv hu
  simp only [Instr.indexAt, asIntOf, bC, bT, bQ, run_underlying lq, h0, h1, and_self, if_true, dE, dp hi, da, gR]
 unfold sB
 split
 · unfold Hm
   split
   · rename_i n e sz l k j ha
     rintro ⟨h0, h1⟩
     obtain ⟨i, lq, hi, da⟩ := pY ha
     simp only [ao] at hx hy
     obtain ⟨aB, off, vs, rfl, gK, hr⟩ := hx
     subst hy
     simp only [Instr.indexAt, asIntOf, bC, bT, bQ, run_underlying lq, Instr.sureAddr, h0, h1, and_self, if_true, dE, dp hi, da, gR]
     exact aO h (by simp only [ao]; exact ⟨aB, _, _, rfl, sA gK, hr.drop _⟩)
   · rename_i n e sz b off k j ha
     rintro ⟨h0, h1⟩
     obtain ⟨i, lq, hi, da⟩ := pY ha
     simp only [ao] at hx hy
     obtain ⟨x, hb, rfl⟩ := hx
     subst hy
     simp only [Instr.indexAt, asIntOf, bC, bT, bQ, run_underlying lq, Instr.sureAddr, h0, h1, and_self, if_true, dE, dp hi, da, gR]
     exact aO h (by simp only [ao]; exact ⟨x, hb, rfl⟩)
   · trivial
 · rename_i e sz n cap l k j hs
   rintro ⟨h0, h1⟩
   simp only [ao] at hx hy
   obtain ⟨aB, off, c, vs, hv, _, _, _, hi, hr⟩ := hx
   rw [key e sz aB off n c k j hs hv hy h0 h1]
   exact aO h (by simp only [ao]; exact ⟨aB, _, _, rfl, sA hi, hr.drop _⟩)
 · rename_i e sz b off n fW e' k j hs
   rintro ⟨h0, h1, rfl⟩
   simp only [ao] at hx hy
   obtain ⟨x, c, hb, hv, _⟩ := hx
   rw [key e fW x.aB off n c k j hs hv hy h0 h1]
   exact aO h (by simp only [ao]; exact ⟨x, hb, rfl⟩)
 · trivial
def jQ (P : Program) (t : TypeId) : Bool := match P.underlying t with | some .string => true | _ => false
def xZ (P : Program) (t : TypeId) (x i : AV) : aA :=
 match x, i with
 | .str s, .int _ j => if jQ P t = true then .cond (0 <= j /\ j < s.length) (.val (.int .u8 (s.getD j.toNat 0).toNat)) else .bad
 | .agg l, .int _ j => match qE P t with
   | some (n, e, sz) => match kh P e with
     | some (false, _) => .cond (0 <= j /\ j < n) (fl (l.drop (j.toNat * sz)))
     | some (true, k) => .cond (0 <= j /\ j < n /\ k = sz /\ j.toNat * sz + sz <= l.length) (.val (.agg ((l.drop (j.toNat * sz)).take sz)))
     | none => .bad
   | none => .bad
 | _, _ => .bad
theorem lN {P : Program} {t : TypeId} (h : jQ P t = true) : P.underlying t = some .string := by
 unfold jQ at h
 split at h
 · assumption
 · cases h
theorem DM (h : aS g U w) {t : TypeId} {x y : AV} {v u : Value} (hx : ao g x v) (hy : ao g y u) : aA.Fits C g U (xZ C.P t x y) ((do let x <- Instr.index t v u; pure (Next.value x) : Sem Next).run C.P w) := by
 unfold xZ
 split
 · rename_i s k j
   split
   · rename_i ht
     rintro ⟨h0, h1⟩
     simp only [ao] at hx hy
     subst hx hy
     have hj : j.toNat < s.length := by omega
     have e : (ByteArray.mk s.toArray)[j.toNat]? = some (s.getD j.toNat 0) := by
      have da : (ByteArray.mk s.toArray).size = s.length := by simp [ByteArray.size]
      rw [getElem?_pos _ _ (by rw [da]; exact hj)]
      simp [zp, kL hj]
      rfl
     simp only [Instr.index, asIntOf, bC, bT, bQ, run_underlying (lN ht), h0, if_true, e]
     exact aO h (by simp only [ao])
   · trivial
 · rename_i l k j
   split
   · rename_i n e sz ha
     obtain ⟨i, lq, hi, da⟩ := pY ha
     simp only [ao] at hx hy
     subst hy
     obtain ⟨vs, rfl, HN, hr⟩ := hx
     split
     · rename_i sz' hv
       obtain ⟨i', d, gK, hd, hb, _⟩ := kS hv
       rintro ⟨h0, h1⟩
       cases hl : l.drop (j.toNat * sz) with
       | nil => trivial
       | cons z zs =>
         have hz : l[j.toNat * sz]? = some z := by
          have := congrArg (fun l => l[0]?) hl
          simpa using this
         obtain ⟨u, hu2, Ob⟩ := hr.get hz
         have e1 : vs.toArray[j.toNat * sz]? = some u := by simpa using hu2
         simp only [Instr.index, asIntOf, bC, bT, bQ, run_underlying lq, h0, h1, and_self, if_true, dE, dp hi, da, part, iv hd, hb, bu, if_false, e1]
         exact aO h Ob
     · rename_i k' hv
       obtain ⟨i', d, gK, hd, hb, hk⟩ := kS hv
       rw [hi] at gK; cases gK
       rintro ⟨h0, h1, rfl, h2⟩
       simp only [Instr.index, asIntOf, bC, bT, bQ, run_underlying lq, h0, h1, and_self, if_true, dE, dp hi, da, part, iv hd, hb]
       refine aO h ?_
       simp only [ao]
       refine ⟨(vs.drop (j.toNat * k')).take k', ?_, fun u hu => HN u (List.mem_of_mem_drop (List.mem_of_mem_take hu)), (hr.drop _).take _⟩
       congr 1
       apply Array.ext'
       simp [List.extract_eq_take_drop]
     · trivial
   · trivial
 · trivial
end
end Go.Rip
namespace Go.Rip
open Go.RowKit
section
variable {C : bX} {g : Gh} {U : St} {w : World}
theorem ng {P : Program} {d : Nat} : ∀ (fs : List Field) (i : Nat) (ks : List FK) (xs ys : List AV) (us vs : Array Value) (r : Bool), rq P fs i = some ks -> ln ks xs ys = some r ->
 ax g xs (us.toList.drop i) -> ax g ys (vs.toList.drop i) -> (Op.eqFields (d + 1) us vs fs).run P w = .ok r w
 | [], i, ks, xs, ys, us, vs, r, hk, he, _, _ => by
   simp only [rq, fL] at hk
   subst hk
   cases xs <;> cases ys <;> simp only [ln, reduceCtorEq, fL] at he
   subst he
   simp [Op.eqFields]
 | f :: fs, i, ks, xs, ys, us, vs, r, hk, he, hx, hy => by
   simp only [rq] at hk
   split at hk
   · rename_i k ks' hf HX
     simp only [fL] at hk
     subst hk
     unfold HH at hf
     split at hf
     · rename_i hc
       obtain ⟨ho, hn⟩ := hc
       have N1 : ∀ (us : Array Value) (u : Value), us[i]? = some u -> ∀ dd, P.underlying f.type = some dd -> yP dd = false -> (part f.type us f.offset).run P w = .ok u w := fun us u hu dd hd ha => by
        simp only [part, bC, iv hd, bQ, ha, bu, if_false, ho, hu, bT, dE]
       have kX : ∀ {xs : List AV} {x : AV} {us : Array Value}, ax g (x :: xs) (us.toList.drop i) -> ∃ u, us[i]? = some u /\ ao g x u /\ ax g xs (us.toList.drop (i + 1)) := fun {xs x us} h => by
        simp only [ax] at h
        obtain ⟨u, rest, e, h1, h2⟩ := h
        refine ⟨u, ?_, h1, ?_⟩
        · have := congrArg (fun l => l[0]?) e
          simpa using this
        · have := congrArg (List.drop 1) e
          rw [List.drop_drop] at this
          rw [this]; simpa using h2
       have ur : ∀ (u v : Value) (q r' : Bool) (dd : TypeDesc), us[i]? = some u -> vs[i]? = some v -> P.underlying f.type = some dd -> yP dd = false -> (Op.equalIn (d + 1) f.type u v).run P w = .ok q w ->
        (Op.eqFields (d + 1) us vs fs).run P w = .ok r' w -> (Op.eqFields (d + 1) us vs (f :: fs)).run P w = .ok (q && r') w := fun u v q r' dd hu hv hd ha heq Yi => by
        simp only [Op.eqFields, if_pos hn, bC, N1 us u hu dd hd ha, N1 vs v hv dd hd ha, bQ, heq, dE, bT, Yi]
        cases q <;> simp
       split at hf
       · rename_i hd
         cases hf
         cases xs with
         | nil => simp [ln] at he
         | cons x xs =>
           cases ys with
           | nil => cases x <;> simp [ln] at he
           | cons y ys =>
             cases x <;> cases y <;> simp only [ln, reduceCtorEq] at he
             cases hr : ln ks' xs ys with
             | none => simp [hr] at he
             | some r' =>
               simp [hr] at he
               subst he
               obtain ⟨u, hu, Ac, gL⟩ := kX hx
               obtain ⟨v, hv, Ae, Ig⟩ := kX hy
               simp only [ao] at Ac Ae
               subst Ac Ae
               have := ur _ _ _ r' _ hu hv hd rfl (run_equalIn_bool' w d f.type _ _ hd) (ng fs (i + 1) ks' xs ys us vs r' HX hr gL Ig)
               rw [this]
       · rename_i kk hd
         cases hf
         cases xs with
         | nil => simp [ln] at he
         | cons x xs =>
           cases ys with
           | nil => cases x <;> simp [ln] at he
           | cons y ys =>
             cases x <;> cases y <;> simp only [ln, reduceCtorEq] at he
             split at he
             · rename_i e; subst e
               cases hr : ln ks' xs ys with
               | none => simp [hr] at he
               | some r' =>
                 simp [hr] at he
                 subst he
                 obtain ⟨u, hu, Ac, gL⟩ := kX hx
                 obtain ⟨v, hv, Ae, Ig⟩ := kX hy
                 simp only [ao] at Ac Ae
                 subst Ac Ae
                 have := ur _ _ _ r' _ hu hv hd rfl (run_equalIn_int w d f.type _ _ _ _ hd) (ng fs (i + 1) ks' xs ys us vs r' HX hr gL Ig)
                 rw [this]
             · cases he
       · rename_i hd
         cases hf
         cases xs with
         | nil => simp [ln] at he
         | cons x xs =>
           cases ys with
           | nil => cases x <;> simp [ln] at he
           | cons y ys =>
             cases x <;> cases y <;> simp only [ln, reduceCtorEq] at he
             cases hr : ln ks' xs ys with
             | none => simp [hr] at he
             | some r' =>
               simp [hr] at he
               subst he
               obtain ⟨u, hu, Ac, gL⟩ := kX hx
               obtain ⟨v, hv, Ae, Ig⟩ := kX hy
               simp only [ao] at Ac Ae
               subst Ac Ae
               have := ur _ _ _ r' _ hu hv hd rfl (run_equalIn_string w d f.type _ _ hd) (ng fs (i + 1) ks' xs ys us vs r' HX hr gL Ig)
               rw [this]
               simp [ByteArray.toList_eq]
       · cases hf
     · cases hf
   · cases hk
theorem yo {P : Program} {t : TypeId} {a b : List AV} {us vs : List Value} {r : Bool} (h : Eg P t a b = some r) (ha : ax g a us) (hb : ax g b vs) :
 (Op.equalIn 10000 t (.agg us.toArray) (.agg vs.toArray)).run P w = .ok r w /\ P.eqGuardType P.depth t = false := by
 unfold Eg at h
 split at h
 · rename_i ks kD
   unfold FE at kD
   split at kD
   · rename_i fs hu
     split at kD
     · rename_i hc
       have WG : P.fieldsOf t = fs := by simp [Program.fieldsOf, hu]
       refine ⟨?_, hc.2⟩
       rw [run_equalIn_struct w 9999 t _ _ (by rw [WG]; exact hu) hc.1, WG]
       exact ng (d := 9998) fs.toList 0 ks a b _ _ r kD h (by simpa using ha) (by simpa using hb)
     · cases kD
   · cases kD
 · cases h
theorem oL {P : Program} (w : World) (d : Nat) (t : TypeId) (ms : Array (String × TypeId)) (h : P.underlying t = some (.interface ms)) (a : TypeId) (b : Value) : (Op.equalIn (d + 1) t (.iface a b) .nilIface).run P w = .ok false w := by
 simp [Op.equalIn, run_underlying h]
theorem gk {P : Program} (w : World) (d : Nat) (t e : TypeId) (h : P.underlying t = some (.pointer e)) (a : Option Addr) : (Op.equalIn (d + 1) t (.pointer a) (.pointer none)).run P w = .ok a.isNone w := by
 cases a <;> simp [Op.equalIn, run_underlying h]
theorem kO {P : Program} (w : World) (d : Nat) (t e : TypeId) (h : P.underlying t = some (.slice e)) (a : Option Addr) (n c : Nat) : (Op.equalIn (d + 1) t (.slice a n c) (.slice none 0 0)).run P w = .ok a.isNone w := by
 cases a <;> simp [Op.equalIn, run_underlying h]
theorem nh {P : Program} (w : World) (d : Nat) (t : TypeId) (ms : Array (String × TypeId)) (h : P.underlying t = some (.interface ms)) : (Op.equalIn (d + 1) t .nilIface .nilIface).run P w = .ok true w := by
 simp [Op.equalIn, run_underlying h]
theorem Ho (h : aS g U w) {op : BinOp} {t : TypeId} {x y : AV} {u v : Value} (X Y : Operand) (hx : ao g x u) (hy : ao g y v) :
 aA.Fits C g U (Fo C.P op t x y) ((do let r <- (do eqGuard op t X Y u v; binOp op t u v : Sem Value); pure (Next.value r) : Sem Next).run C.P w) := by
 have hI : ∀ (k : IntKind) (n : Int), aA.Fits C g U (fA k n) (.ok (.value (.int k (k.wrap n))) w) := fun k n => by
  unfold fA
  split
  · intro hi
    rw [tm hi]
    exact aO h (by simp only [ao])
  · exact aO h (by simp only [ao])
 unfold Fo
 split
 all_goals first
  | trivial
  | skip
 all_goals simp only [ao] at hx hy
 all_goals first
  | (subst hx hy
     split
     · rename_i e; subst e
       first
        | (simp only [eqGuard, binOp, ne_eq, not_true_eq_false, if_false, Op.intArith, Op.intCmp, Op.intBits, bC, bT, bQ, Bool.not_eq_true', Bool.true_eq_false, cq, dR, bu, if_true, dE]
           first
            | exact hI _ _
            | exact aO h (by simp only [ao]))
        | (intro hb
           simp only [eqGuard, binOp, ne_eq, not_true_eq_false, if_false, Op.intDiv, if_neg hb, bC, bT, bQ, Bool.not_eq_true', Bool.true_eq_false, cq, dR, bu, if_true, dE]
           first
            | exact hI _ _
            | exact aO h (by simp only [ao]))
     · trivial)
  | skip
 · subst hx hy
   simp only [eqGuard, binOp, Op.stringOp, bC, bT, bQ, cq, bu, if_false, dE, ByteArray.toList_eq, List.toList_toArray]
   exact aO h (by simp only [ao])
 · subst hx hy
   simp only [eqGuard, binOp, Op.stringOp, bC, bT, bQ, cq, bu, if_false, dE, ByteArray.toList_eq, List.toList_toArray]
   exact aO h (by simp only [ao]; rfl)
 · subst hx hy
   rename_i a b
   intro hle
   have h1 : ¬ (((ByteArray.mk a.toArray).size + (ByteArray.mk b.toArray).size : Nat) : Int) > IntKind.i64.max := by
    have e1 : (ByteArray.mk a.toArray).size = a.length := by simp [ByteArray.size]
    have e2 : (ByteArray.mk b.toArray).size = b.length := by simp [ByteArray.size]
    have e3 : IntKind.i64.max = 9223372036854775807 := by simp [IntKind.max, IntKind.signed, IntKind.bits]
    rw [e1, e2, e3]; omega
   have h2 : (ByteArray.mk a.toArray) ++ (ByteArray.mk b.toArray) = ByteArray.mk (a ++ b).toArray := by
    apply ByteArray.ext
    simp
   simp only [eqGuard, binOp, Op.stringOp, bC, bT, bQ, if_neg h1, dE, cq, dR, bu, if_true, if_false, h2]
   exact aO h (by simp only [ao])
 · subst hx hy
   split
   · rename_i ht
     have hu : C.P.underlying t = some .bool := by unfold rJ at ht; split at ht <;> simp_all
     have hr := run_equalIn_bool' (P := C.P) w 9999 t
     simp only [eqGuard, binOp, Op.equal, Op.maxDepth, bC, bT, bQ, hr _ _ hu, cq, bu, if_false, dE]
     exact aO h (by simp only [ao])
   · trivial
 · subst hx hy
   split
   · rename_i ht
     have hu : C.P.underlying t = some .bool := by unfold rJ at ht; split at ht <;> simp_all
     have hr := run_equalIn_bool' (P := C.P) w 9999 t
     simp only [eqGuard, binOp, Op.equal, Op.maxDepth, bC, bT, bQ, hr _ _ hu, cq, bu, if_false, dE]
     exact aO h (by simp only [ao]; rfl)
   · trivial
 · rename_i a b
   obtain ⟨us, rfl, _, ha⟩ := hx
   obtain ⟨vs, rfl, _, hb⟩ := hy
   cases he : Eg C.P t a b with
   | none => trivial
   | some r =>
     obtain ⟨h1, h2⟩ := yo (w := w) he ha hb
     simp only [rh, bC, run_eqGuard_agg w _ _ _ _ _ _ h2, bQ, run_eql_struct, h1, bT]
     exact aO h (by simp only [ao])
 · rename_i a b
   obtain ⟨us, rfl, _, ha⟩ := hx
   obtain ⟨vs, rfl, _, hb⟩ := hy
   cases he : Eg C.P t a b with
   | none => trivial
   | some r =>
     obtain ⟨h1, h2⟩ := yo (w := w) he ha hb
     simp only [rh, bC, run_eqGuard_agg w _ _ _ _ _ _ h2, bQ, run_neq_struct, h1, bT]
     exact aO h (by simp only [ao])
 · obtain ⟨u', rfl, _⟩ := hx
   subst hy
   split
   · rename_i ht
     obtain ⟨ms, hu⟩ : ∃ ms, C.P.underlying t = some (.interface ms) := by unfold gT at ht; split at ht <;> simp_all
     have hr := oL (P := C.P) w 9999 t ms hu
     simp only [eqGuard, binOp, Op.equal, Op.maxDepth, hr, bC, bT, bQ, cq, bu, if_false, dE]
     exact aO h (by simp only [ao])
   · trivial
 · obtain ⟨u', rfl, _⟩ := hx
   subst hy
   split
   · rename_i ht
     obtain ⟨ms, hu⟩ : ∃ ms, C.P.underlying t = some (.interface ms) := by unfold gT at ht; split at ht <;> simp_all
     have hr := oL (P := C.P) w 9999 t ms hu
     simp only [eqGuard, binOp, Op.equal, Op.maxDepth, hr, bC, bT, bQ, cq, dR, bu, if_false, dE]
     exact aO h (by simp only [ao])
   · trivial
 · subst hx hy
   split
   · rename_i ht
     obtain ⟨ms, hu⟩ : ∃ ms, C.P.underlying t = some (.pointer ms) := by unfold jd at ht; split at ht <;> simp_all
     have hr := gk (P := C.P) w 9999 t ms hu
     simp only [eqGuard, binOp, Op.equal, Op.maxDepth, hr, bC, bT, bQ, Option.isNone_none, cq, dR, bu, if_false, dE]
     exact aO h (by simp [ao])
   · trivial
 · obtain ⟨x, _, rfl⟩ := hx
   subst hy
   split
   · rename_i ht
     obtain ⟨ms, hu⟩ : ∃ ms, C.P.underlying t = some (.pointer ms) := by unfold jd at ht; split at ht <;> simp_all
     have hr := gk (P := C.P) w 9999 t ms hu
     simp only [eqGuard, binOp, Op.equal, Op.maxDepth, hr, bC, bT, bQ, Option.isNone_none, cq, dR, bu, if_false, dE]
     exact aO h (by simp [ao])
   · trivial
 · subst hx hy
   split
   · rename_i ht
     obtain ⟨ms, hu⟩ : ∃ ms, C.P.underlying t = some (.pointer ms) := by unfold jd at ht; split at ht <;> simp_all
     have hr := gk (P := C.P) w 9999 t ms hu
     simp only [eqGuard, binOp, Op.equal, Op.maxDepth, hr, bC, bT, bQ, Option.isNone_none, cq, dR, bu, if_false, dE]
     exact aO h (by simp [ao])
   · trivial
 · obtain ⟨x, _, rfl⟩ := hx
   subst hy
   split
   · rename_i ht
     obtain ⟨ms, hu⟩ : ∃ ms, C.P.underlying t = some (.pointer ms) := by unfold jd at ht; split at ht <;> simp_all
     have hr := gk (P := C.P) w 9999 t ms hu
     simp only [eqGuard, binOp, Op.equal, Op.maxDepth, hr, bC, bT, bQ, Option.isNone_none, cq, dR, bu, if_false, dE]
     exact aO h (by simp [ao])
   · trivial
 · obtain ⟨_, _, _, rfl, _⟩ := hx
   subst hy
   split
   · rename_i ht
     obtain ⟨ms, hu⟩ : ∃ ms, C.P.underlying t = some (.pointer ms) := by unfold jd at ht; split at ht <;> simp_all
     have hr := gk (P := C.P) w 9999 t ms hu
     simp only [eqGuard, binOp, Op.equal, Op.maxDepth, hr, bC, bT, bQ, Option.isNone_none, cq, dR, bu, if_false, dE]
     exact aO h (by simp [ao])
   · trivial
 · obtain ⟨_, _, _, rfl, _⟩ := hx
   subst hy
   split
   · rename_i ht
     obtain ⟨ms, hu⟩ : ∃ ms, C.P.underlying t = some (.pointer ms) := by unfold jd at ht; split at ht <;> simp_all
     have hr := gk (P := C.P) w 9999 t ms hu
     simp only [eqGuard, binOp, Op.equal, Op.maxDepth, hr, bC, bT, bQ, Option.isNone_none, cq, dR, bu, if_false, dE]
     exact aO h (by simp [ao])
   · trivial
 · subst hx
   subst hy
   split
   · rename_i ht
     obtain ⟨ms, hu⟩ : ∃ ms, C.P.underlying t = some (.slice ms) := by unfold lY at ht; split at ht <;> simp_all
     have hr := kO (P := C.P) w 9999 t ms hu
     simp only [eqGuard, binOp, Op.equal, Op.maxDepth, hr, bC, bT, bQ, Option.isNone_none, Option.isNone_some, cq, dR, bu, if_false, dE]
     exact aO h (by simp [ao])
   · trivial
 · obtain ⟨_, _, _, _, rfl, _⟩ := hx
   subst hy
   split
   · rename_i ht
     obtain ⟨ms, hu⟩ : ∃ ms, C.P.underlying t = some (.slice ms) := by unfold lY at ht; split at ht <;> simp_all
     have hr := kO (P := C.P) w 9999 t ms hu
     simp only [eqGuard, binOp, Op.equal, Op.maxDepth, hr, bC, bT, bQ, Option.isNone_none, Option.isNone_some, cq, dR, bu, if_false, dE]
     exact aO h (by simp [ao])
   · trivial
 · obtain ⟨_, _, _, rfl, _⟩ := hx
   subst hy
   split
   · rename_i ht
     obtain ⟨ms, hu⟩ : ∃ ms, C.P.underlying t = some (.slice ms) := by unfold lY at ht; split at ht <;> simp_all
     have hr := kO (P := C.P) w 9999 t ms hu
     simp only [eqGuard, binOp, Op.equal, Op.maxDepth, hr, bC, bT, bQ, Option.isNone_none, Option.isNone_some, cq, dR, bu, if_false, dE]
     exact aO h (by simp [ao])
   · trivial
theorem Hp (h : aS g U w) {op : BinOp} {t : TypeId} {x y : AV} {u v : Value} (X Y : Operand) (hx : ao g x u) (hy : ao g y v) :
 aA.Fits C g U (Bv C.P op t (isLit X || isLit Y) x y) ((do let r <- (do eqGuard op t X Y u v; binOp op t u v : Sem Value); pure (Next.value r) : Sem Next).run C.P w) := by
 have key : ∀ (op : BinOp), (op = .eql \/ op = .neq) -> gT C.P t = true -> (isLit X || isLit Y) = true -> (eqGuard op t X Y .nilIface .nilIface).run C.P w = .ok () w := fun op hop ht hl => by
  obtain ⟨ms, hu⟩ : ∃ ms, C.P.underlying t = some (.interface ms) := by unfold gT at ht; split at ht <;> simp_all
  rcases hop with rfl | rfl <;> cases X <;> cases Y <;> simp [isLit] at hl <;> simp [eqGuard]
 unfold Bv
 split
 · simp only [ao] at hx hy
   subst hx hy
   split
   · rename_i ht
     obtain ⟨ms, hu⟩ : ∃ ms, C.P.underlying t = some (.interface ms) := by have ht := ht.1; unfold gT at ht; split at ht <;> simp_all
     have hr := nh (P := C.P) w 9999 t ms hu
     simp only [bC, key _ (.inl rfl) ht.1 ht.2, binOp, Op.equal, Op.maxDepth, hr, bT, bQ, cq, dR, bu, if_false, dE]
     exact aO h (by simp [ao])
   · trivial
 · simp only [ao] at hx hy
   subst hx hy
   split
   · rename_i ht
     obtain ⟨ms, hu⟩ : ∃ ms, C.P.underlying t = some (.interface ms) := by have ht := ht.1; unfold gT at ht; split at ht <;> simp_all
     have hr := nh (P := C.P) w 9999 t ms hu
     simp only [bC, key _ (.inr rfl) ht.1 ht.2, binOp, Op.equal, Op.maxDepth, hr, bT, bQ, cq, dR, bu, if_false, dE]
     exact aO h (by simp [ao])
   · trivial
 · exact Ho h X Y hx hy
end
end Go.Rip
namespace Go.Rip
open Go.RowKit
section
variable {C : bX} {g : Gh} {U : St} {w : World}
def Fl (P : Program) (t u : TypeId) : Option (TypeId × Nat) :=
 match P.underlying u with
 | some (.slice _) => dH P t
 | some .string => match dH P t with
   | some (e, 1) => some (e, 1)
   | _ => none
 | _ => none
def oF (U : St) : AV -> Option (Nat × List AV)
 | .vec m _ l => some (m, l)
 | .ag => some (0, [])
 | .ms b off m fW _ => match U.box b with
   | some l => some (m, (l.drop off).take (m * fW))
   | none => none
 | .str s => some (s.length, s.map fun b => .int .u8 b.toNat)
 | _ => none
def yQ (P : Program) (t u : TypeId) (mu : Bool) (s y : AV) (U : St) : aA :=
 match Fl P t u, oF U y with
 | some (e, sz), some (m, l2) =>
   .cond (l2.length = m * sz) (match s with
   | .ag => if m = 0 then .val .ag else .cond (m <= 4294967296) (if mu then .lf m sz e none l2 else .jS m l2 none ⟨m, e, sz⟩)
   | .vec n .full l => if m = 0 then .val s else .cond (l.length = n * sz /\ n + m <= 4294967296) (.jS (n + m) (l ++ l2) none ⟨n + m, e, sz⟩)
   | .vec n (.own τ) l => .cond (U.tok τ = some ⟨n, e, sz⟩ /\ l.length = n * sz /\ n + m <= 4294967296) (.jS (n + m) (l ++ l2) (some τ) ⟨n + m, e, sz⟩)
   | .ms b off n fW e' => match U.box b with
     | some l => .cond (off = 0 /\ fW = sz /\ e' = e /\ n * sz <= l.length /\ n + m <= 4294967296) (.lf (n + m) sz e (some b) (l.take (n * sz) ++ l2))
     | none => .bad
   | _ => .bad)
 | _, _ => .bad
theorem Hl {P : Program} {t u e : TypeId} {sz : Nat} (h : Fl P t u = some (e, sz)) : dH P t = some (e, sz) /\ ∃ d, P.underlying u = some d /\ ((∃ x, d = .slice x) \/ d = .string) := by
 unfold Fl at h
 split at h
 · rename_i x hx; exact ⟨h, _, hx, .inl ⟨x, rfl⟩⟩
 · rename_i hx
   split at h
   · rename_i e' he
     simp only [fL, ji] at h
     obtain ⟨rfl, rfl⟩ := h
     exact ⟨he, _, hx, .inr rfl⟩
   · cases h
 · cases h
theorem KT (h : aS g U w) {y : AV} {v : Value} (hy : ao g y v) {m : Nat} {l2 : List AV} (hs : oF U y = some (m, l2)) {sz : Nat} (hl : l2.length = m * sz) :
 (∀ W, (Builtin.lenOf v).run C.P W = .ok m W) /\ ∃ us : List Value, ax g l2 us /\ (∀ u ∈ us, u.oneCell' = true) /\ ∀ W : World, W.heap = w.heap -> (Builtin.firstCells sz m v).run C.P W = .ok us.toArray W := by
 have gR : ∀ aB off j, (⟨aB, off, none⟩ : Addr).add j = ⟨aB, off + j, none⟩ := fun aB off j => by unfold Addr.add; split <;> simp_all
 have lT : ∀ (W : World) a, W.heap = w.heap -> W.cell? a = w.cell? a := fun W a hW => by simp [World.cell?, hW]
 have read : ∀ (aB off c : Nat) (us : List Value), us.length = m * sz -> (∀ j u, us[j]? = some u -> w.cell? ⟨aB, off + j, none⟩ = some u) -> ∀ W : World, W.heap = w.heap ->
  (Builtin.firstCells sz m (.slice (some ⟨aB, off, none⟩) m c)).run C.P W = .ok us.toArray W := fun aB off c us hlen hc W hW => by
  exact run_firstCells_some W sz m ⟨aB, off, none⟩ m c us hlen (fun j u hu => by rw [gR, lT W _ hW]; exact hc j u hu)
 cases y <;> simp only [oF, reduceCtorEq, fL, ji] at hs
 · rename_i s
   obtain ⟨rfl, rfl⟩ := hs
   simp only [ao] at hy
   subst hy
   have da : (ByteArray.mk s.toArray).size = s.length := by simp [ByteArray.size]
   refine ⟨fun W => by simp [Builtin.lenOf, da], s.map (fun b => Value.int .u8 b.toNat), ?_, by simp [Value.oneCell'], fun W _ => ?_⟩
   · refine ax.yd (by simp) fun i x u hx hu => ?_
     simp only [jE, lD] at hx hu
     obtain ⟨b, hb, rfl⟩ := hx
     obtain ⟨b', cZ, rfl⟩ := hu
     rw [hb] at cZ; cases cZ
     simp only [ao]
   · simp only [Builtin.firstCells, bT]
     congr 1
     apply Array.ext'
     simp
 · obtain ⟨rfl, rfl⟩ := hs
   simp only [ao] at hy
   subst hy
   exact ⟨fun W => by simp [Builtin.lenOf], [], by simp [ax], by simp, fun W _ => by simp [Builtin.firstCells]⟩
 · rename_i n cap l
   obtain ⟨rfl, rfl⟩ := hs
   simp only [ao] at hy
   obtain ⟨aB, off, c, vs, rfl, _, _, _, hi, hr⟩ := hy
   exact ⟨fun W => by simp [Builtin.lenOf], vs, hr, fun u hu => by
    obtain ⟨j, hj⟩ := List.getElem?_of_mem hu
    exact (h.bI _ _ _ (hi j u hj)).2, read aB off c vs (by rw [hr.length, hl]) fun j u hu => (h.bI _ _ _ (hi j u hu)).1⟩
 · rename_i b off n fW e'
   split at hs
   · rename_i l hb
     simp only [fL, ji] at hs
     obtain ⟨rfl, rfl⟩ := hs
     simp only [ao] at hy
     obtain ⟨x, c, hx, rfl, _, _, _, _⟩ := hy
     obtain ⟨a, vs, hv, ha, hr, hc⟩ := nS h (p := .box b off) (v := .pointer (some ⟨x.aB, off, none⟩)) (l := l.drop off) (by simp only [ao]; exact ⟨x, hx, rfl⟩) (by simp [ja, hb])
     cases hv
     refine ⟨fun W => by simp [Builtin.lenOf], vs.take (n * fW), hr.take _, fun u hu => ?_, read x.aB off c _ (by rw [(hr.take _).length, hl]) fun j u hu => ?_⟩
     · obtain ⟨j, hj⟩ := List.getElem?_of_mem hu
       rw [List.getElem?_take] at hj
       split at hj
       · exact (hc j u hj).2
       · cases hj
     · rw [List.getElem?_take] at hu
       split at hu
       · have := (hc j u hu).1; rwa [gR] at this
       · cases hu
   · cases hs
theorem lk {P : Program} {w : World} {t u ty e : TypeId} {i : TypeInfo} {d : TypeDesc} (ht : P.underlying t = some (.slice e)) (hu : P.underlying u = some d) (hd : (∃ x, d = .slice x) \/ d = .string) (hi : P.info? e = some i)
 {base : Option Addr} {n c m : Nat} {v : Value} {us : List Value} (hm : ∀ W, (Builtin.lenOf v).run P W = .ok m W) (hf : (Builtin.firstCells i.size m v).run P w = .ok us.toArray w) (lU : n + m <= c) :
 (Builtin.append_ #[t, u] ty #[.slice base n c, v]).run P w = match base with
   | some a => ((storeCells (a.add (n * i.size)) us).run P w).andThen fun _ w' => .ok (.slice base (n + m) c) w'
   | none => .ok (.slice base (n + m) c) w := by
 rcases hd with ⟨x, rfl⟩ | rfl <;> cases base <;>
  simp [Builtin.append_, run_underlying ht, run_underlying hu, sizeOf, typeInfo, hi, hm, lU, hf]
theorem zu {P : Program} {w : World} {t u ty e : TypeId} {i : TypeInfo} {z : Value} {d : TypeDesc} (ht : P.underlying t = some (.slice e)) (hu : P.underlying u = some d) (hd : (∃ x, d = .slice x) \/ d = .string) (hi : P.info? e = some i) (hz : i.zero = some z) (xM : i.bytes <= 32768)
 {base : Option Addr} {n c m : Nat} {v : Value} {uJ us : List Value} (hm : ∀ W, (Builtin.lenOf v).run P W = .ok m W) (hf : ∀ W : World, W.heap = w.heap -> (Builtin.firstCells i.size m v).run P W = .ok us.toArray W)
 (ho : ∀ W : World, W.heap = w.heap -> (Builtin.firstCells i.size n (.slice base n c)).run P W = .ok uJ.toArray W) (aae : c < n + m) (mN : n + m <= 4294967296) :
 (Builtin.append_ #[t, u] ty #[.slice base n c, v]).run P w =
   .ok (.slice (some ⟨w.heap.size, 0, none⟩) (n + m) (grownCap w (n + m) c e))
    (w.drew.alloc (.cells (uJ.toArray ++ us.toArray ++ Builtin.zeroCells z.cells (grownCap w (n + m) c e - (n + m))) e)) := by
 have lU : ¬ (n + m <= c) := by omega
 have LQ : ¬ (9223372036854775807 < ((n : Int) + (m : Int))) := by omega
 have jO : (n + m) * i.bytes <= 140737488355328 := Nat.le_trans (Nat.mul_le_mul mN xM) (by omega)
 have HO := growslice_fits (old := c) (need := n + m) (bytes := i.bytes) (by omega) jO
 have LP : ¬ (281474976710656 < Builtin.nextslicecap (n + m) c * i.bytes) := by omega
 have Z3 := hf w.drew rfl
 have NX := ho w.drew rfl
 rcases hd with ⟨x, rfl⟩ | rfl <;>
 · simp [Builtin.append_, run_underlying ht, run_underlying hu, sizeOf, typeInfo, zeroValue, hi, hz, hm, lU, LQ, LP, Question.forced, Z3, NX, newRow, grownCap]
   congr 2
   apply Array.ext'
   simp [kf]
theorem St.Ee (U : St) (d : Option Nat) : St.Le (U.oz d) U := by
 cases d with
 | none => exact St.Le.refl U
 | some b => exact St.pe U b
theorem lJ {w : World} (h : aS g U w) {del : Option Nat} {e : TypeId} {sz n c : Nat} {l : List AV} {vs rest : List Value} (hr : ax g l vs) (h1 : ∀ u ∈ vs, u.oneCell' = true) (h2 : ∀ u ∈ rest, u.oneCell' = true)
 (hl : l.length = n * sz) (hc : vs.length + rest.length = c * sz) (hn : n <= c) (rA : c <= maxLen) :
 aA.Fits C g U (.jS n l del ⟨n, e, sz⟩) (.ok (.value (.slice (some ⟨w.heap.size, 0, none⟩) n c)) (w.alloc (.cells (vs ++ rest).toArray e))) := by
 obtain ⟨τ, g', h3, hle, h4, h5, h6⟩ := (h.weaken (St.Ee U del)).jS e sz n c (vs ++ rest).toArray vs rest (by simp) (by
  intro u hu
  simp only [eH] at hu
  rcases hu with hu | hu
  · exact h1 u hu
  · exact h2 u hu) (by rw [hr.length, hl]) (by simp [hc]) hn rA
 refine ⟨_, _, g', τ, rfl, h3, hle, h6, ?_⟩
 simp only [NV.at, ao]
 exact ⟨w.heap.size, 0, c, vs, rfl, hn, rA, ⟨rfl, h4⟩, h5, hr.mono hle⟩
theorem mJ {w : World} (h : aS g U w) {del : Option Nat} {e : TypeId} {sz n c : Nat} {l : List AV} {vs rest : List Value} (hr : ax g l vs) (h1 : ∀ u ∈ vs, u.oneCell' = true) (h2 : ∀ u ∈ rest, u.oneCell' = true)
 (hc : vs.length + rest.length = c * sz) (hn : n <= c) (rA : c <= maxLen) :
 aA.Fits C g U (.lf n sz e del l) (.ok (.value (.slice (some ⟨w.heap.size, 0, none⟩) n c)) (w.alloc (.cells (vs ++ rest).toArray e))) := by
 obtain ⟨b, g', h3, hle, h4, h6⟩ := (h.weaken (St.Ee U del)).cj e (vs ++ rest).toArray vs rest l (by simp) hr (by
  intro u hu
  simp only [eH] at hu
  rcases hu with hu | hu
  · exact h1 u hu
  · exact h2 u hu)
 refine ⟨_, _, g', b, rfl, h3, hle, h6, ?_⟩
 simp only [NV.at, ao]
 exact ⟨_, c, h4, rfl, hn, rA, by simp [hc], rfl⟩
theorem iW {z : Array Value} (hz : ∀ u ∈ z.toList, u.oneCell' = true) (n : Nat) (hp : 0 < z.size) : ∀ u ∈ (Builtin.zeroCells z n).toList, u.oneCell' = true := by
 intro u hu
 simp only [Builtin.zeroCells, Array.toList_map, List.mem_map] at hu
 obtain ⟨i, _, rfl⟩ := hu
 have aK : i % z.size < z.size := Nat.mod_lt _ hp
 rw [getElem!_pos z _ aK]
 exact hz _ (by simp)
theorem Bs (h : aS g U w) {t u ty : TypeId} {mu : Bool} {s y : AV} {v v2 : Value} (hs : ao g s v) (hy : ao g y v2) :
 aA.Fits C g U (yQ C.P t u mu s y U) ((do let r <- Builtin.append_ #[t, u] ty #[v, v2]; pure (Next.value r) : Sem Next).run C.P w) := by
 have gR : ∀ aB off j, (⟨aB, off, none⟩ : Addr).add j = ⟨aB, off + j, none⟩ := fun aB off j => by unfold Addr.add; split <;> simp_all
 unfold yQ
 split
 · rename_i e sz m l2 ZQ F2
   intro pr
   obtain ⟨py, d, hu, hd⟩ := Hl ZQ
   obtain ⟨i, z, ht, hi, hz, rE, rfl, jy, xM, W8⟩ := fw py
   obtain ⟨hm, us, px, uk, hf⟩ := KT (C := C) h hy F2 pr
   have Ib : us.length = m * i.size := by rw [px.length, pr]
   have grow : ∀ (base : Option Addr) (n c : Nat) (uJ : List Value), (∀ W : World, W.heap = w.heap -> (Builtin.firstCells i.size n (.slice base n c)).run C.P W = .ok uJ.toArray W) -> uJ.length = n * i.size -> c < n + m -> n + m <= 4294967296 ->
    ∃ cap rest, n + m <= cap /\ cap <= maxLen /\ (∀ u ∈ rest, u.oneCell' = true) /\ (uJ ++ us).length + rest.length = cap * i.size /\
    (Builtin.append_ #[t, u] ty #[.slice base n c, v2]).run C.P w = .ok (.slice (some ⟨w.drew.heap.size, 0, none⟩) (n + m) cap) (w.drew.alloc (.cells ((uJ ++ us) ++ rest).toArray e)) := fun base n c uJ ho hol aK mN => by
    have hY := grownCap_ge w (n + m) c e
    have hle := grownCap_le_maxLen w (n + m) c e (by unfold maxLen; omega)
    refine ⟨grownCap w (n + m) c e, (Builtin.zeroCells z.cells (grownCap w (n + m) c e - (n + m))).toList, hY, hle, iW W8 _ (by omega), ?_, ?_⟩
    · rw [ep, hol, Ib, oE, size_zeroCells, rE, <- Nat.add_mul, <- Nat.add_mul]
      congr 1; omega
    · rw [zu ht hu hd hi hz xM hm hf ho aK mN]
      congr 3
      simp
   split
   · simp only [ao] at hs
     subst hs
     split
     · rename_i h0
       subst h0
       rw [bC, lk ht hu hd hi hm (hf w rfl) (by omega)]
       exact aO h (by simp only [ao])
     · rename_i h0
       intro mN
       obtain ⟨cap, rest, h1, h2, h3, h4, h5⟩ := grow none 0 0 [] (fun W _ => by simp [Builtin.firstCells]) (by simp) (by omega) (by omega)
       rw [bC, h5]
       have dw := h.grow (gQ w)
       simp only [cD, gH] at h1 h4 h5 ⊢
       split
       · exact mJ dw px uk h3 h4 h1 h2
       · exact lJ dw px uk h3 pr h4 h1 h2
   · rename_i n l
     have uw := hs
     simp only [ao] at hs
     obtain ⟨aB, off, c, vs, rfl, z7, rA, uo, j5, hr⟩ := hs
     simp only [mD] at uo
     subst uo
     split
     · rename_i h0
       subst h0
       rw [bC, lk ht hu hd hi hm (hf w rfl) (by omega)]
       have Yn : us = [] := List.eq_nil_of_length_eq_zero (by simpa using Ib)
       subst Yn
       simp only [storeCells, bT, bQ, Nat.add_zero]
       exact aO h uw
     · rename_i h0
       rintro ⟨hl, mN⟩
       have Ck : vs.length = c * i.size := by rw [hr.length, hl]
       have ho : ∀ W : World, W.heap = w.heap -> (Builtin.firstCells i.size c (.slice (some ⟨aB, off, none⟩) c c)).run C.P W = .ok vs.toArray W := fun W hW =>
        run_firstCells_some W i.size c ⟨aB, off, none⟩ c c vs Ck (fun j u hu => by
         rw [gR]
         have : W.cell? ⟨aB, off + j, none⟩ = w.cell? ⟨aB, off + j, none⟩ := by simp [World.cell?, hW]
         rw [this]; exact (h.bI _ _ _ (j5 j u hu)).1)
       obtain ⟨cap, rest, h1, h2, h3, h4, h5⟩ := grow (some ⟨aB, off, none⟩) c c vs ho Ck (by omega) mN
       rw [bC, h5]
       have dw := h.grow (gQ w)
       refine lJ dw (hr.append px) ?_ h3 (by rw [ep, hl, pr, Nat.add_mul]) h4 h1 h2
       intro u hu
       simp only [eH] at hu
       rcases hu with hu | hu
       · obtain ⟨j, hj⟩ := List.getElem?_of_mem hu
         exact (h.bI _ _ _ (j5 j u hj)).2
       · exact uk u hu
   · rename_i n τ l
     rintro ⟨Sy, hl, mN⟩
     simp only [ao] at hs
     obtain ⟨aB, off, c, vs, rfl, z7, rA, uo, j5, hr⟩ := hs
     simp only [mD] at uo
     obtain ⟨rfl, rC⟩ := uo
     obtain ⟨XM, c', cur, k1, k2, k3, k4, k5, k6, k7⟩ := h.tok τ _ Sy
     rw [rC] at k1; cases k1
     have Ck : vs.length = n * i.size := by rw [hr.length, hl]
     by_cases lU : n + m <= c
     · have ly : n * i.size + us.length <= cur.size := by
        have e4 : cur.size = c * i.size := k4
        rw [Ib, e4, <- Nat.add_mul]; exact Nat.mul_le_mul_right _ lU
       have eL := run_storeCells_at C.P aB (n * i.size) e us 0 cur w k3 (by simpa using ly) uk
       simp only [Nat.add_zero] at eL
       rw [bC, lk ht hu hd hi hm (hf w rfl) lU]
       simp only [gR, cD, eL, bQ]
       obtain ⟨qB, g', t1, hle, t2, t3, t4⟩ := h.TE Sy rC cur (cur.toList.take (n * i.size) ++ us ++ cur.toList.drop (n * i.size + us.length)).toArray us m k3 Ib lU (by simp) uk
       refine ⟨_, _, g', qB, rfl, t1, hle, t4, ?_⟩
       simp only [NV.at, ao]
       refine ⟨aB, 0, c, vs ++ us, rfl, lU, rA, ⟨rfl, t2⟩, fun j u hu => ?_, (hr.append px).mono hle⟩
       by_cases hj : j < vs.length
       · rw [pL hj] at hu
         exact (j5.mono hle) j u hu
       · rw [List.getElem?_append_right (by omega)] at hu
         have e0 : n * i.size + (j - vs.length) = 0 + j := by omega
         have Xu : g'.bI aB (n * i.size + (j - vs.length)) = some u := t3 _ u hu
         rw [e0] at Xu
         exact Xu
     · have ho : ∀ W : World, W.heap = w.heap -> (Builtin.firstCells i.size n (.slice (some ⟨aB, 0, none⟩) n c)).run C.P W = .ok vs.toArray W := fun W hW =>
        run_firstCells_some W i.size n ⟨aB, 0, none⟩ n c vs Ck (fun j u hu => by
         rw [gR]
         have : W.cell? ⟨aB, 0 + j, none⟩ = w.cell? ⟨aB, 0 + j, none⟩ := by simp [World.cell?, hW]
         rw [this]; exact (h.bI _ _ _ (j5 j u hu)).1)
       obtain ⟨cap, rest, h1, h2, h3, h4, h5⟩ := grow (some ⟨aB, 0, none⟩) n c vs ho Ck (by omega) mN
       rw [bC, h5]
       have dw := h.grow (gQ w)
       refine lJ dw (hr.append px) ?_ h3 (by rw [ep, hl, pr, Nat.add_mul]) h4 h1 h2
       intro u hu
       simp only [eH] at hu
       rcases hu with hu | hu
       · obtain ⟨j, hj⟩ := List.getElem?_of_mem hu
         exact (h.bI _ _ _ (j5 j u hj)).2
       · exact uk u hu
   · rename_i b off n fW e'
     split
     · rename_i l hb
       rintro ⟨rfl, rfl, rfl, xV, mN⟩
       simp only [ao] at hs
       obtain ⟨x, c, hx, rfl, z7, rA, VE, Ie⟩ := hs
       obtain ⟨x', cur, vs, VP, k1, k2, k3, k4, k5, k6, k7, k8⟩ := h.box b l hb
       rw [hx] at k1; cases k1
       have pk : cur.size = c * i.size := by rw [k4]; omega
       have Ck := k6.length
       by_cases lU : n + m <= c
       · have ly : n * i.size + us.length <= cur.size := by
          rw [Ib, pk, <- Nat.add_mul]; exact Nat.mul_le_mul_right _ lU
         have eL := run_storeCells_at C.P x.aB (n * i.size) x.e us 0 cur w k3 (by simpa using ly) uk
         simp only [Nat.add_zero] at eL
         rw [bC, lk ht hu hd hi hm (hf w rfl) lU]
         simp only [gR, cD, eL, bQ]
         have e1 : cur.toList.take (n * i.size) = vs.take (n * i.size) := by rw [k5, List.take_append_of_le_length (by omega)]
         have tF := h.setRow hb hx (l' := l.take (n * i.size) ++ l2) (cur.toList.take (n * i.size) ++ us ++ cur.toList.drop (n * i.size + us.length)).toArray (vs.take (n * i.size) ++ us) (cur.toList.drop (n * i.size + us.length)) (by
          simp only [List.size_toArray, ep, List.length_take, List.length_drop, oE]; omega) (by simp [e1]) ((k6.take _).append px) (by
          intro u hu
          simp only [eH] at hu
          rcases hu with (hu | hu) | hu
          · exact k7 u (List.mem_of_mem_take hu)
          · exact uk u hu
          · exact k7 u (List.mem_of_mem_drop hu))
         obtain ⟨b', g', f1, hle, f2, f3⟩ := tF.rename (b := b) (x := .box (l.take (n * i.size) ++ l2)) (by simp [St.bN, St.set]) hx
         have ed : (U.bN b (l.take (n * i.size) ++ l2)).del b = U.del b := by
          simp only [St.bN, St.set, St.del, St.mk.injEq, and_true]
          funext y
          split <;> rfl
         rw [ed] at f1 f3
         refine ⟨_, _, g', b', rfl, f1, hle, f3, ?_⟩
         simp only [NV.at, ao]
         exact ⟨x, c, f2, rfl, lU, rA, VE, Ie⟩
       · have W5 : (vs.take (n * i.size)).length = n * i.size := by simp; omega
         have ho : ∀ W : World, W.heap = w.heap -> (Builtin.firstCells i.size n (.slice (some ⟨x.aB, 0, none⟩) n c)).run C.P W = .ok (vs.take (n * i.size)).toArray W := fun W hW =>
          run_firstCells_some W i.size n ⟨x.aB, 0, none⟩ n c _ W5 (fun j u hu => by
           rw [gR]
           have : W.cell? ⟨x.aB, 0 + j, none⟩ = w.cell? ⟨x.aB, 0 + j, none⟩ := by simp [World.cell?, hW]
           rw [this, cell_of_row _ _ _ cur x.e (0, 0) k3, cD, <- gX, k5]
           rw [List.getElem?_take] at hu
           split at hu
           · rw [pL (by omega)]; exact hu
           · cases hu)
         obtain ⟨cap, rest, h1, h2, h3, h4, h5⟩ := grow (some ⟨x.aB, 0, none⟩) n c _ ho W5 (by omega) mN
         rw [bC, h5]
         have dw := h.grow (gQ w)
         refine mJ dw ((k6.take _).append px) ?_ h3 h4 h1 h2
         intro u hu
         simp only [eH] at hu
         rcases hu with hu | hu
         · refine k7 u ?_
           rw [k5]
           exact List.mem_append_left _ (List.mem_of_mem_take hu)
         · exact uk u hu
     · trivial
   · trivial
 · trivial
end
end Go.Rip
namespace Go.Rip
open Go.RowKit
section
variable {C : bX} {g : Gh} {U : St} {w : World}
def cJ (uc : Int) : Option AV -> Option Int
 | none => some uc
 | some (.int _ n) => some n
 | _ => none
def pZ : hX -> Option AV -> hX
 | .full, none => .full
 | _, _ => .gl
def C3 (P : Program) (t : TypeId) (x : AV) (lo hi : Option AV) : aA :=
 match x with
 | .str s => match jQ P t, cJ 0 lo, cJ s.length hi with
   | true, some l, some h => .cond (0 <= l /\ l <= h /\ h <= s.length) (.val (.str ((s.take h.toNat).drop l.toNat)))
   | _, _, _ => .bad
 | .vec n cap l => match dH P t, cJ 0 lo, cJ n hi with
   | some (_, sz), some a, some b => .cond (0 <= a /\ a <= b /\ b <= n) (.val (.vec (b.toNat - a.toNat) (pZ cap hi) ((l.take (b.toNat * sz)).drop (a.toNat * sz))))
   | _, _, _ => .bad
 | .ag => match dH P t, cJ 0 lo, cJ 0 hi with
   | some (_, _), some a, some b => .cond (a = 0 /\ b = 0) (.val .ag)
   | _, _, _ => .bad
 | .ms b off n fW e => match dH P t, cJ 0 lo, cJ n hi with
   | some (_, sz), some a, some h => .cond (0 <= a /\ a <= h /\ h <= n /\ (a < n \/ a = 0) /\ fW = sz) (.val (.ms b (off + a.toNat * sz) (h.toNat - a.toNat) fW e))
   | _, _, _ => .bad
 | _ => .bad
theorem run_sliceBound {P : Program} {x : Value} {k : IntKind} {n : Int} {y : Nat} {code : BoundsCode} (hx : x = .int k n) (h0 : 0 <= n) (h1 : n <= y) : (Instr.sliceBound x y code).run P w = .ok n.toNat w := by
 subst hx
 simp [Instr.sliceBound, asIntOf, h0, h1]
theorem xx {uc : Int} {o : Option AV} {v : Option Value} {n : Int} (hr : match o, v with | none, none => True | some x, some u => ao g x u | _, _ => False) (hb : cJ uc o = some n) :
 (o = none /\ v = none /\ n = uc) \/ ∃ k u, v = some u /\ u = .int k n /\ ∃ x, o = some x := by
 cases o with
 | none =>
   cases v with
   | none => simp [cJ] at hb; exact .inl ⟨rfl, rfl, hb.symm⟩
   | some u => exact hr.elim
 | some x =>
   cases v with
   | none => exact hr.elim
   | some u =>
     cases x <;> simp only [cJ, reduceCtorEq, fL] at hb
     subst hb
     simp only [ao] at hr
     exact .inr ⟨_, u, rfl, hr, _, rfl⟩
theorem kj {P : Program} {isS : Bool} {len cap : Nat} {lo hi : Option AV} {vl vh : Option Value} {a b : Int}
 (hl : match lo, vl with | none, none => True | some x, some u => ao g x u | _, _ => False) (hh : match hi, vh with | none, none => True | some x, some u => ao g x u | _, _ => False)
 (ha : cJ 0 lo = some a) (hb : cJ len hi = some b) (h0 : 0 <= a) (h1 : a <= b) (h2 : b <= len) (h3 : len <= cap) :
 (Instr.sliceBounds isS len cap vl vh none).run P w = .ok (a.toNat, b.toNat, cap) w := by
 rcases xx hl ha with ⟨_, rfl, rfl⟩ | ⟨k, u, rfl, hu, _⟩ <;> rcases xx hh hb with ⟨_, rfl, rfl⟩ | ⟨k', u', rfl, lq, _⟩
 · simp [Instr.sliceBounds]
 · have e1 : ∀ c, (Instr.sliceBound u' cap c).run P w = .ok b.toNat w := fun c => run_sliceBound lq (by omega) (by omega)
   simp [Instr.sliceBounds, e1]
 · have e1 : ∀ c, (Instr.sliceBound u len c).run P w = .ok a.toNat w := fun c => run_sliceBound hu h0 (by omega)
   simp [Instr.sliceBounds, e1]
 · have e1 : ∀ c, (Instr.sliceBound u' cap c).run P w = .ok b.toNat w := fun c => run_sliceBound lq (by omega) (by omega)
   have e2 : ∀ c, (Instr.sliceBound u b.toNat c).run P w = .ok a.toNat w := fun c => run_sliceBound hu h0 (by omega)
   simp [Instr.sliceBounds, e1, e2]
theorem D4 (h : aS g U w) {t : TypeId} {x : AV} {v : Value} {lo hi : Option AV} {vl vh : Option Value} (hx : ao g x v)
 (hl : match lo, vl with | none, none => True | some x, some u => ao g x u | _, _ => False) (hh : match hi, vh with | none, none => True | some x, some u => ao g x u | _, _ => False) :
 aA.Fits C g U (C3 C.P t x lo hi) ((do let r <- Instr.sliceAt t v vl vh none; pure (Next.value r) : Sem Next).run C.P w) := by
 have gR : ∀ aB off j, (⟨aB, off, none⟩ : Addr).add j = ⟨aB, off + j, none⟩ := fun aB off j => by unfold Addr.add; split <;> simp_all
 unfold C3
 split
 · rename_i s
   split
   · rename_i a b ht ha hb
     rintro ⟨h0, h1, h2⟩
     simp only [ao] at hx
     subst hx
     have da : (ByteArray.mk s.toArray).size = s.length := by simp [ByteArray.size]
     have hr := kj (w := w) (P := C.P) (isS := false) hl hh ha hb h0 h1 h2 (cG _)
     simp only [Instr.sliceAt, Instr.slice, run_underlying (lN ht), bC, bQ, da, hr, bT, Option.isSome_none, bu, if_false]
     refine aO h ?_
     simp only [ao]
     congr 1
     apply ByteArray.ext
     simp only [ByteArray.data_extract]
     apply Array.ext'
     simp [List.extract_eq_take_drop, List.drop_take]
   · trivial
 · rename_i n cap l
   split
   · rename_i e sz a b ht ha hb
     rintro ⟨h0, h1, h2⟩
     simp only [ao] at hx
     obtain ⟨aB, off, c, vs, rfl, z7, rA, uo, j5, hr⟩ := hx
     obtain ⟨i, z, hu, gK, hz, rE, rfl, jy, _⟩ := fw ht
     have eQ := kj (w := w) (P := C.P) (isS := true) hl hh ha hb h0 h1 h2 z7
     simp only [Instr.sliceAt, Instr.slice, run_underlying hu, bC, bQ, eQ, bT, dp gK]
     refine aO h ?_
     have Vq : mD g (pZ cap hi) aB (if c = a.toNat then off else off + a.toNat * i.size) (b.toNat - a.toNat) (c - a.toNat) := by
      cases cap with
      | full =>
        cases hi with
        | none =>
          simp only [pZ, mD] at uo ⊢
          simp only [cJ, fL] at hb
          omega
        | some y => trivial
      | own τ => trivial
      | gl => trivial
     simp only [ao]
     refine ⟨aB, if c = a.toNat then off else off + a.toNat * i.size, c - a.toNat, (vs.take (b.toNat * i.size)).drop (a.toNat * i.size), ?_, by omega, by omega, Vq, ?_, (hr.take _).drop _⟩
     · simp only [Option.map_some, gR]
       split <;> rfl
     · split
       · rename_i e1
         have : (vs.take (b.toNat * i.size)).drop (a.toNat * i.size) = [] := by
          rw [List.drop_eq_nil_iff]
          have : b.toNat <= a.toNat := by omega
          have := Nat.mul_le_mul_right i.size this
          simp; omega
         rw [this]; intro j u hu; simp at hu
       · intro j u hu
         rw [List.getElem?_drop, List.getElem?_take] at hu
         split at hu
         · have := j5 _ u hu
           rw [Nat.add_assoc]; exact this
         · cases hu
   · trivial
 · split
   · rename_i e sz a b ht ha hb
     rintro ⟨rfl, rfl⟩
     simp only [ao] at hx
     subst hx
     obtain ⟨i, z, hu, gK, hz, rE, rfl, jy, _⟩ := fw ht
     have eQ := kj (w := w) (P := C.P) (isS := true) (len := 0) (cap := 0) hl hh ha (by simpa using hb) (by omega) (by omega) (by simp) (cG _)
     simp only [Instr.sliceAt, Instr.slice, run_underlying hu, bC, bQ, eQ, bT, dp gK]
     refine aO h (by simp [ao])
   · trivial
 · rename_i b off n fW e
   split
   · rename_i e' sz a hh' ht ha hb
     rintro ⟨h0, h1, h2, h3, rfl⟩
     simp only [ao] at hx
     obtain ⟨y, c, hy, rfl, z7, rA, da, Ie⟩ := hx
     obtain ⟨i, z, hu, gK, hz, rE, rfl, jy, _⟩ := fw ht
     have eQ := kj (w := w) (P := C.P) (isS := true) hl hh ha hb h0 h1 h2 z7
     simp only [Instr.sliceAt, Instr.slice, run_underlying hu, bC, bQ, eQ, bT, dp gK]
     refine aO h ?_
     simp only [ao]
     have e2 : off + a.toNat * i.size + (c - a.toNat) * i.size = y.size := by
      have : a.toNat * i.size + (c - a.toNat) * i.size = c * i.size := by rw [<- Nat.add_mul]; congr 1; omega
      omega
     refine ⟨y, c - a.toNat, hy, ?_, by omega, by omega, e2, Ie⟩
     simp only [Option.map_some, gR]
     split
     · rename_i e1
       have Zw : a.toNat = 0 := by omega
       simp [Zw]
     · rfl
   · trivial
 · trivial
def gM (op : UnOp) (x : AV) : aA :=
 match op, x with
 | .not, .bool b => .val (.bool (!b))
 | .neg, .int k n => fA k (0 - n)
 | _, _ => .bad
theorem Dt (h : aS g U w) (k : IntKind) (n : Int) : aA.Fits C g U (fA k n) (.ok (.value (.int k (k.wrap n))) w) := by
 unfold fA
 split
 · intro hi
   rw [tm hi]
   exact aO h (by simp only [ao])
 · exact aO h (by simp only [ao])
theorem M9 (h : aS g U w) {op : UnOp} {x : AV} {v : Value} (hx : ao g x v) : aA.Fits C g U (gM op x) ((do let r <- Op.unary op v; pure (Next.value r) : Sem Next).run C.P w) := by
 unfold gM
 split
 · simp only [ao] at hx; subst hx
   exact aO h (by simp only [ao])
 · simp only [ao] at hx; subst hx
   simp only [Op.unary, Op.intArith, bC, bT, bQ]
   exact Dt h _ _
 · trivial
def F8 (P : Program) (t : TypeId) : Option IntKind := match P.underlying t with | some (.int k) => some k | _ => none
def sD (P : Program) (t : TypeId) : Bool := match P.underlying t with
 | some (.slice e) => match P.underlying e with
   | some (.int .u8) => true
   | _ => false
 | _ => false
theorem AR {P : Program} {t : TypeId} (h : sD P t = true) : ∃ e, P.underlying t = some (.slice e) /\ P.underlying e = some (.int .u8) := by
 unfold sD at h
 split at h
 · rename_i e he
   split at h
   · rename_i hu; exact ⟨e, he, hu⟩
   · cases h
 · cases h
def AZ (P : Program) (src dst : TypeId) (x : AV) : aA :=
 match F8 P dst, (P.underlying src).isSome, x with
 | some .i64, true, .int _ n => .cond (pX n) (.val (.int .i64 n))
 | some k, true, .int _ n => .val (.int k (k.wrap n))
 | none, true, .str s => if jQ P dst = true /\ jQ P src = true then .val (.str s) else
   if sD P dst = true /\ jQ P src = true then .cond (s.length <= 4294967296) (.val (.vec s.length .gl (s.map fun b => .int .u8 b.toNat))) else .bad
 | _, _, _ => .bad
theorem AU (h : aS g U w) {src dst e : TypeId} {s : List UInt8} (hd : C.P.underlying dst = some (.slice e)) (he : C.P.underlying e = some (.int .u8)) (hs : C.P.underlying src = some .string) (hlen : s.length <= 4294967296) :
 aA.Fits C g U (.val (.vec s.length .gl (s.map fun b => .int .u8 b.toNat))) ((do let r <- convert src dst (.string ⟨s.toArray⟩); pure (Next.value r) : Sem Next).run C.P w) := by
 have eQ := Lib.run_convert_string_bytes (P := C.P) w src dst e ⟨s.toArray⟩ hs hd he
 have da : (ByteArray.mk s.toArray).size = s.length := by simp [ByteArray.size]
 rw [da] at eQ
 have hY := grownCap_ge w s.length 0 e
 have hle := grownCap_le_maxLen w s.length 0 e (by unfold maxLen; omega)
 let vs : List Value := s.map fun b => .int .u8 b.toNat
 let g' : Gh := { g with bI := fun aB o => if aB = w.heap.size then vs[o]? else g.bI aB o }
 have lX : ∀ o, g'.bI w.heap.size o = vs[o]? := fun o => by show (if w.heap.size = w.heap.size then _ else _) = _; rw [if_pos rfl]
 have hold : ∀ aB o, aB ≠ w.heap.size -> g'.bI aB o = g.bI aB o := fun aB o hx => by show (if aB = w.heap.size then _ else _) = _; rw [if_neg hx]
 have FZ : Gh.Le g g' := ⟨rfl, rfl, fun _ _ h => h, fun aB o u hu => by
  rw [hold _ _ (fun e => by subst e; rw [h.vw (cG _)] at hu; cases hu)]; exact hu, fun _ _ h => h, fun _ h => h, fun q o hq => hold _ _ (by have := h.le; omega), fun _ _ => rfl⟩
 have dw : aS g' U (Lib.bytesWorld w e ⟨s.toArray⟩) := by
  refine h.change w.heap.size h.le FZ rfl rfl ⟨rfl, rfl, rfl, by rw [Lib.bytesWorld_size]; omega⟩ (fun k _ hk => Lib.bytesWorld_at_old w e _ k hk) hold (fun _ _ => rfl) (fun o u hu => ?_) (fun es c hr => ?_) (fun b x p k1 k2 => Nat.ne_of_lt (h.sM k1 k2)) (h.zt (cG _))
  · rw [lX] at hu
    simp only [vs, jE, lD] at hu
    obtain ⟨b, hb, rfl⟩ := hu
    have aK := (dx.1 hb).1
    refine ⟨?_, rfl⟩
    rw [Lib.bytesWorld_cell w e ⟨s.toArray⟩ o (by rw [da]; exact aK)]
    simp [List.getD, hb]
  · have : g.bo w.heap.size = some (es, c) := hr
    rw [h.sy (cG _)] at this; cases this
 simp only [bC, eQ, bQ, bT]
 refine ⟨_, _, g', .inl rfl, FZ, dw, ?_⟩
 simp only [ao]
 refine ⟨w.heap.size, 0, _, vs, rfl, hY, hle, trivial, fun i u hu => by rw [cD, lX]; exact hu, ?_⟩
 refine ax.yd (by simp [vs]) fun i x v hx hv => ?_
 simp only [vs, jE, lD] at hx hv
 obtain ⟨b, hb, rfl⟩ := hx
 obtain ⟨b', cZ, rfl⟩ := hv
 rw [hb] at cZ; cases cZ
 simp only [ao]
theorem Fv (h : aS g U w) {src dst : TypeId} {x : AV} {v : Value} (hx : ao g x v) : aA.Fits C g U (AZ C.P src dst x) ((do let r <- convert src dst v; pure (Next.value r) : Sem Next).run C.P w) := by
 unfold AZ
 split
 · rename_i k n hk hs
   simp only [ao] at hx; subst hx
   have hu : C.P.underlying dst = some (.int .i64) := by unfold F8 at hk; split at hk <;> simp_all
   obtain ⟨d, hd⟩ := Option.isSome_iff_exists.1 hs
   intro hi
   simp only [convert, run_underlying hu, run_underlying hd, bC, bT, bQ, Conv.intToInt]
   rw [tm hi]
   exact aO h (by simp only [ao])
 · rename_i k _ n _ hk hs
   simp only [ao] at hx; subst hx
   have hu : C.P.underlying dst = some (.int k) := by unfold F8 at hk; split at hk <;> simp_all
   obtain ⟨d, hd⟩ := Option.isSome_iff_exists.1 hs
   simp only [convert, run_underlying hu, run_underlying hd, bC, bT, bQ, Conv.intToInt]
   exact aO h (by simp only [ao])
 · split
   · rename_i hc
     simp only [ao] at hx; subst hx
     simp only [convert, run_underlying (lN hc.1), run_underlying (lN hc.2), bC, bT, bQ]
     exact aO h (by simp only [ao])
   · split
     · rename_i hc
       intro hlen
       simp only [ao] at hx; subst hx
       obtain ⟨e, hd, he⟩ := AR hc.1
       exact AU h hd he (lN hc.2) hlen
     · trivial
 · trivial
def uH (P : Program) (t : TypeId) : Bool := match P.underlying t with | some (.interface _) => false | some _ => true | none => false
def sG (P : Program) (t : TypeId) (x : AV) : aA := if uH P t = true then .val (.iface t x) else .bad
theorem ya (h : aS g U w) {t : TypeId} {x : AV} {v : Value} (hx : ao g x v) : aA.Fits C g U (sG C.P t x) ((do let r <- Instr.makeInterface t v; pure (Next.value r) : Sem Next).run C.P w) := by
 unfold sG
 split
 · rename_i hc
   unfold uH at hc
   split at hc
   · cases hc
   · rename_i d hn hd
     simp only [Instr.makeInterface, run_underlying hd, bC, bQ]
     cases d
     case interface => exact (hn _ rfl).elim
     all_goals
      simp only [bT, bQ]
      exact aO h (by simp only [ao]; exact ⟨v, rfl, hx⟩)
   · cases hc
 · trivial
def aV (x : AV) (i : Nat) : aA :=
 match x with
 | .aN l => fl (l.drop i)
 | _ => .bad
theorem AO (h : aS g U w) {x : AV} {v : Value} (hx : ao g x v) (i : Nat) : aA.Fits C g U (aV x i) ((do let r <- Instr.extract v i; pure (Next.value r) : Sem Next).run C.P w) := by
 unfold aV
 split
 · rename_i l
   simp only [ao] at hx
   obtain ⟨vs, rfl, hr⟩ := hx
   cases hd : l.drop i with
   | nil => trivial
   | cons y ys =>
     have hy : l[i]? = some y := by
      have := congrArg (fun l => l[0]?) hd
      simpa using this
     obtain ⟨u, hu, hyu⟩ := hr.get hy
     have e : vs.toArray[i]? = some u := by simpa using hu
     simp only [Instr.extract, e, bC, bT, bQ]
     exact aO h hyu
 · trivial
def mW (x : AV) : aA :=
 match x with
 | .iface t v => .panic (.iface t v)
 | _ => .bad
theorem DX (h : aS g U w) {x : AV} {v : Value} (hx : ao g x v) : aA.Fits C g U (mW x) ((do let r <- Instr.panic v; pure (Next.value r) : Sem Next).run C.P w) := by
 unfold mW
 split
 · have gL := hx
   simp only [ao] at hx
   obtain ⟨u, rfl, hu⟩ := hx
   simp only [Instr.panic, bC, run_goPanic, Result.andThen_halt]
   exact ⟨_, w, rfl, h, gL⟩
 · trivial
theorem zm (h : aS g U w) {ev : Operand -> Value} {o : Oper} {X : Operand} {x : AV} (ho : o.op = .nilCheck X) (hx : ao g x (ev X)) : aA.Fits C g U (bh x) ((execOp ev o).run C.P w) := by
 unfold bh
 split
 · have gL := hx
   simp only [ao] at hx
   obtain ⟨y, _, hv⟩ := hx
   simp only [execOp, ho, hv, bT]
   rw [hv] at gL
   exact aO h gL
 · have gL := hx
   simp only [ao] at hx
   obtain ⟨_, _, _, hv, _⟩ := hx
   simp only [execOp, ho, hv, bT]
   rw [hv] at gL
   exact aO h gL
 · have gL := hx
   simp only [ao] at hx
   obtain ⟨_, _, hv, _⟩ := hx
   simp only [execOp, ho, hv, bT]
   rw [hv] at gL
   exact aO h gL
 · trivial
def Gi (P : Program) (t : TypeId) : Option Bool :=
 match P.underlying t with
 | some .string => some true
 | some (.slice _) => some false
 | _ => none
def CC (P : Program) (t : TypeId) (x : AV) (U : St) : aA :=
 match Gi P t, x with
 | some true, .str s => .val (.int .i64 s.length)
 | some false, .vec n _ _ => .val (.int .i64 n)
 | some false, .ms _ _ n _ _ => .val (.int .i64 n)
 | some false, .ag => .val (.int .i64 0)
 | _, _ => .bad
theorem qi {P : Program} {t : TypeId} {b : Bool} (h : Gi P t = some b) : (b = true /\ P.underlying t = some .string) \/ (b = false /\ ∃ e, P.underlying t = some (.slice e)) := by
 unfold Gi at h
 split at h
 · rename_i e; simp at h; exact .inl ⟨h, e⟩
 · rename_i e' e; simp at h; exact .inr ⟨h, _, e⟩
 · cases h
theorem Iv (h : aS g U w) {t ty : TypeId} {x : AV} {v : Value} (hx : ao g x v) : aA.Fits C g U (CC C.P t x U) ((do let r <- Builtin.len_ #[t] ty #[v]; pure (Next.value r) : Sem Next).run C.P w) := by
 unfold CC
 split
 · rename_i s Cj
   have hu : C.P.underlying t = some .string := by rcases qi Cj with ⟨_, h⟩ | ⟨h, _⟩ <;> first | exact h | cases h
   simp only [ao] at hx; subst hx
   have da : (ByteArray.mk s.toArray).size = s.length := by simp [ByteArray.size]
   simp [Builtin.len_, run_underlying hu, goInt, da]
   exact aO h (by simp only [ao])
 · rename_i Cj
   obtain ⟨e0, hu⟩ : ∃ e, C.P.underlying t = some (.slice e) := by rcases qi Cj with ⟨h, _⟩ | ⟨_, h⟩ <;> first | exact h | cases h
   simp only [ao] at hx
   obtain ⟨_, _, _, _, rfl, _⟩ := hx
   simp [Builtin.len_, run_underlying hu, goInt]
   exact aO h (by simp only [ao])
 · rename_i Cj
   obtain ⟨e0, hu⟩ : ∃ e, C.P.underlying t = some (.slice e) := by rcases qi Cj with ⟨h, _⟩ | ⟨_, h⟩ <;> first | exact h | cases h
   simp only [ao] at hx
   obtain ⟨_, _, _, rfl, _⟩ := hx
   simp [Builtin.len_, run_underlying hu, goInt]
   exact aO h (by simp only [ao])
 · rename_i Cj
   obtain ⟨e0, hu⟩ : ∃ e, C.P.underlying t = some (.slice e) := by rcases qi Cj with ⟨h, _⟩ | ⟨_, h⟩ <;> first | exact h | cases h
   simp only [ao] at hx; subst hx
   simp [Builtin.len_, run_underlying hu, goInt]
   exact aO h (by simp only [ao])
 · trivial
def uE (x y : AV) : aA :=
 match x, y with
 | .int k a, .int k' b => if k = k' then .val (.int k (if b < a then b else a)) else .bad
 | _, _ => .bad
def wZ (x y : AV) : aA :=
 match x, y with
 | .int k a, .int k' b => if k = k' then .val (.int k (if b > a then b else a)) else .bad
 | _, _ => .bad
theorem IC (h : aS g U w) {ts : Array TypeId} {ty : TypeId} {x y : AV} {v u : Value} (hx : ao g x v) (hy : ao g y u) : aA.Fits C g U (wZ x y) ((do let r <- Builtin.max_ ts ty #[v, u]; pure (Next.value r) : Sem Next).run C.P w) := by
 unfold wZ
 split
 · split
   · rename_i e; subst e
     simp only [ao] at hx hy; subst hx hy
     simp [Builtin.max_, Builtin.max2]
     exact aO h (by simp only [ao])
   · trivial
 · trivial
theorem ID (h : aS g U w) {ts : Array TypeId} {ty : TypeId} {x y : AV} {v u : Value} (hx : ao g x v) (hy : ao g y u) : aA.Fits C g U (uE x y) ((do let r <- Builtin.min_ ts ty #[v, u]; pure (Next.value r) : Sem Next).run C.P w) := by
 unfold uE
 split
 · split
   · rename_i e; subst e
     simp only [ao] at hx hy; subst hx hy
     simp [Builtin.min_, Builtin.min2]
     exact aO h (by simp only [ao])
   · trivial
 · trivial
end
end Go.Rip
namespace Go.Rip
open Go.RowKit
section
variable {C : bX} {g : Gh} {U : St} {w : World}
def ek (place : Nat -> Option (Nat × Nat)) : List (Nat × AV) -> List AV -> (List AV -> aA) -> aA
 | [], z, k => k z
 | (i, x) :: rest, z, k => match place i with
   | some (off, size) => .cond (x.cC = true /\ (au x).length = size /\ off + size <= z.length) (ek place rest (aw z off (au x)) k)
   | none => .bad
theorem uh (off : Nat) : ∀ (l : List Value) (j : Nat) (cs : Array Value), off + j + l.length <= cs.size ->
 ((l.zipIdx j).foldl (fun (cs : Array Value) (p : Value × Nat) => cs.setIfInBounds (off + p.2) p.1) cs).toList = cs.toList.take (off + j) ++ l ++ cs.toList.drop (off + j + l.length)
 | [], j, cs, _ => by simp
 | v :: l, j, cs, hle => by
   simp only [List.zipIdx_cons, List.foldl_cons]
   simp only [nc] at hle
   rw [uh off l (j + 1) _ (by simp; omega)]
   have hs := list_seg_step cs.toList (off + j) v l (by simpa using hle)
   rw [Array.toList_setIfInBounds]
   rw [show off + (j + 1) = off + j + 1 from rfl]
   exact hs
theorem p5 {place : Nat -> Option (Nat × Nat)} {k : List AV -> aA} {kk : Array Value -> Sem Value} {S : String}
 (hk : ∀ (z : List AV) (cs : Array Value), ax g z cs.toList -> (∀ u ∈ cs.toList, u.oneCell' = true) -> aA.Fits C g U (k z) ((do let r <- kk cs; pure (Next.value r) : Sem Next).run C.P w)) :
 ∀ (parts : List (Nat × AV)) (vs : List (Nat × Value)) (z : List AV) (cs : Array Value), vs.length = parts.length -> (∀ (i : Nat) (p : Nat × AV) (q : Nat × Value), parts[i]? = some p -> vs[i]? = some q -> p.1 = q.1 /\ ao g p.2 q.2) ->
  ax g z cs.toList -> (∀ u ∈ cs.toList, u.oneCell' = true) ->
  aA.Fits C g U (ek place parts z k) ((do let r <- (match Instr.fill place cs vs with | some xB => kk xB | none => stuck S); pure (Next.value r) : Sem Next).run C.P w)
 | [], [], z, cs, _, _, hz, h1 => by
   simp only [ek, Instr.fill]
   exact hk z cs hz h1
 | [], _ :: _, _, _, h, _, _, _ => by simp at h
 | _ :: _, [], _, _, h, _, _, _ => by simp at h
 | (i, x) :: parts, (j, v) :: vs, z, cs, hl, hp, hz, h1 => by
   obtain ⟨rfl, hx⟩ := hp 0 _ _ rfl rfl
   dsimp only at hx ⊢
   simp only [ek]
   cases mM : place i with
   | none => trivial
   | some os =>
     obtain ⟨off, size⟩ := os
     rintro ⟨a1, a2, a3⟩
     obtain ⟨xN, vX⟩ := tY hx a1
     have hlen := xN.length
     have Cm := hz.length
     have ux : v.cells.size = size := by rw [<- oE, hlen, a2]
     have ZX : off + v.cells.size <= cs.size := by rw [ux, <- oE, Cm]; exact a3
     have e : (v.cells.zipIdx.foldl (fun (cs : Array Value) (p : Value × Nat) => cs.setIfInBounds (off + p.2) p.1) cs).toList = cs.toList.take off ++ v.cells.toList ++ cs.toList.drop (off + v.cells.toList.length) := by
      rw [<- Array.foldl_toList, Array.toList_zipIdx]
      have := uh off v.cells.toList 0 cs (by simpa using ZX)
      simpa using this
     have Vr : (v.cells.size ≠ size || off + v.cells.size > cs.size) = false := by simp [ux]; omega
     simp only [Instr.fill, mM]
     rw [if_neg (by rw [Vr]; simp)]
     refine p5 hk parts vs _ _ (by simpa using hl) (fun i p q h2 h3 => hp (i + 1) p q (by simpa using h2) (by simpa using h3)) ?_ ?_
     · show ax g (aw z off (au x)) (v.cells.zipIdx.foldl (fun (cs : Array Value) (p : Value × Nat) => cs.setIfInBounds (off + p.2) p.1) cs).toList
       rw [e]
       unfold aw
       rw [hlen]
       exact ((hz.take _).append xN).append (hz.drop _)
     · show ∀ u ∈ (v.cells.zipIdx.foldl (fun (cs : Array Value) (p : Value × Nat) => cs.setIfInBounds (off + p.2) p.1) cs).toList, u.oneCell' = true
       rw [e]
       intro u hu
       simp only [eH] at hu
       rcases hu with (hu | hu) | hu
       · exact h1 u (List.mem_of_mem_take hu)
       · exact vX u hu
       · exact h1 u (List.mem_of_mem_drop hu)
def jb (C : bX) (ρ : Env) (parts : Array (Nat × Operand)) : List (Nat × AV) := parts.toList.map fun p => (p.1, ρ.ev C p.2)
def Bx (P : Program) (t : TypeId) (parts : List (Nat × AV)) : aA :=
 match vJ P t, lW P t with
 | some pl, some z => ek (fun i => pl[i]?) parts z fun z => .val (.agg z)
 | none, some z => match qE P t with
   | some (_, _, sz) => ek (fun i => some (i * sz, sz)) parts z fun z => .val (.agg z)
   | none => .bad
 | _, _ => .bad
theorem Da {P : Program} {t : TypeId} {pl : List (Nat × Nat)} (h : vJ P t = some pl) : ∃ fs : Array Field, P.underlying t = some (.struct fs) /\ pl = fs.toList.map (fun f => (f.offset, P.cellsOf f.type)) /\
 (fs.mapM (fun f => do pure (f.offset, <- sizeOf f.type) : Field -> Sem (Nat × Nat))).run P w = .ok pl.toArray w := by
 unfold vJ at h
 split at h
 · rename_i fs hu
   split at h
   · rename_i bK
     simp only [fL] at h
     refine ⟨fs, hu, h.symm, ?_⟩
     rw [Array.mapM_eq_mapM_toList]
     rw [Array.all_eq_true_iff_forall_mem] at bK
     have key : ∀ l : List Field, (∀ f ∈ l, (P.info? f.type).isSome = true) -> (l.mapM (fun f => do pure (f.offset, <- sizeOf f.type) : Field -> Sem (Nat × Nat))).run P w = .ok (l.map fun f => (f.offset, P.cellsOf f.type)) w := by
      intro l
      induction l with
      | nil => intro _; simp
      | cons f l ih =>
        intro hf
        obtain ⟨i, hi⟩ := Option.isSome_iff_exists.1 (hf f (by simp))
        have ih' := ih fun x hx => hf x (by simp [hx])
        have hc : P.cellsOf f.type = i.size := by simp [Program.cellsOf, hi]
        simp only [List.mapM_cons, bC, dp hi, bQ, bT, ih', dN, hc]
     have := key fs.toList (fun f hf => bK f (by simpa using hf))
     simp only [Sem.run_map, this, bQ, h]
   · cases h
 · cases h
theorem Dx (h : aS g U w) {t : TypeId} {parts : List (Nat × AV)} {vs : Array (Nat × Value)} (hl : vs.size = parts.length) (hp : ∀ (i : Nat) (p : Nat × AV) (q : Nat × Value), parts[i]? = some p -> vs[i]? = some q -> p.1 = q.1 /\ ao g p.2 q.2) :
 aA.Fits C g U (Bx C.P t parts) ((do let r <- Instr.build t vs; pure (Next.value r) : Sem Next).run C.P w) := by
 unfold Bx
 split
 · rename_i pl z hs hz
   obtain ⟨fs, hu, mM, eQ⟩ := Da (w := w) hs
   obtain ⟨i, zv, hi, pB, hm⟩ := jM hz
   obtain ⟨h1, h2⟩ := dm (g := g) hm
   have key := p5 (C := C) (g := g) (U := U) (w := w) (place := fun i => pl.toArray[i]?) (k := fun z => .val (.agg z)) (kk := fun cs => pure (.agg cs)) (S := "build: no such field, or a part of the wrong size") (fun z cs hz h1 => by
    simp only [bC, bT, bQ]
    exact aO h (by simp only [ao]; exact ⟨cs.toList, by simp, h1, hz⟩)) parts vs.toList z zv.cells (by simpa using hl) (fun i p q h1 h2 => hp i p q h1 (by simpa using h2)) h1 h2
   have e : (fun i : Nat => pl.toArray[i]?) = fun i => pl[i]? := by funext i; simp
   rw [<- e]
   simp only [Instr.build, bC, eB hi pB, bQ, run_underlying hu, eQ]
   cases hf : Instr.fill (fun i : Nat => pl.toArray[i]?) zv.cells vs.toList with
   | none => simp only [hf, bC, run_stuck, Result.andThen_halt] at key ⊢; exact key
   | some xB => simp only [hf, bC, bT, bQ] at key ⊢; exact key
 · rename_i z hs hz
   split
   · rename_i n e sz ha
     obtain ⟨ie, hu, WI, da⟩ := pY ha
     obtain ⟨i, zv, hi, pB, hm⟩ := jM hz
     obtain ⟨h1, h2⟩ := dm (g := g) hm
     have key := p5 (C := C) (g := g) (U := U) (w := w) (place := fun i => some (i * sz, sz)) (k := fun z => .val (.agg z)) (kk := fun cs => pure (.agg cs)) (S := "build: a part of the wrong size") (fun z cs hz h1 => by
      simp only [bC, bT, bQ]
      exact aO h (by simp only [ao]; exact ⟨cs.toList, by simp, h1, hz⟩)) parts vs.toList z zv.cells (by simpa using hl) (fun i p q h1 h2 => hp i p q h1 (by simpa using h2)) h1 h2
     simp only [Instr.build, bC, eB hi pB, bQ, run_underlying hu, dp WI, da]
     cases hf : Instr.fill (fun i : Nat => some (i * sz, sz)) zv.cells vs.toList with
     | none => simp only [hf, bC, run_stuck, Result.andThen_halt] at key ⊢; exact key
     | some xB => simp only [hf, bC, bT, bQ] at key ⊢; exact key
   · trivial
 · trivial
end
end Go.Rip
namespace Go.Rip
open Go.RowKit
section
variable {C : bX} {g : Gh} {U : St} {w : World}
def bw : Nat -> List AV -> List AV
 | 0, _ => []
 | n + 1, z => z ++ bw n z
theorem ic (z : List AV) : ∀ n, (bw n z).length = n * z.length
 | 0 => by simp [bw]
 | n + 1 => by simp [bw, ic z n, Nat.add_mul]; omega
theorem o5 {z : List AV} {zv : Array Value} (hz : ax g z zv.toList) : ∀ n, ax g (bw n z) ((Array.range (n * zv.size)).map (zv[· % zv.size]!)).toList := fun n => by
 have hl : z.length = zv.size := by rw [<- hz.length]; simp
 refine ax.yd (by simp [ic, hl]) fun i x v hx hv => ?_
 have key : ∀ n i x, (bw n z)[i]? = some x -> z[i % zv.size]? = some x := fun n => by
  induction n with
  | zero => intro i x hx; simp [bw] at hx
  | succ n ih =>
    intro i x hx
    simp only [bw] at hx
    by_cases hi : i < z.length
    · rw [pL hi] at hx
      rw [Nat.mod_eq_of_lt (by omega)]; exact hx
    · rw [List.getElem?_append_right (by omega)] at hx
      have := ih _ _ hx
      rw [hl, <- Nat.mod_eq_sub_mod (by omega)] at this
      exact this
 have gL := key n i x hx
 obtain ⟨u, hu, hr⟩ := hz.get gL
 simp only [Array.toList_map, jE, lD] at hv
 obtain ⟨j, hj, rfl⟩ := hv
 have Eo : j = i := by
  rw [gX, Array.getElem?_range] at hj
  split at hj
  · simp at hj; exact hj.symm
  · cases hj
 subst Eo
 have aK : j % zv.size < zv.size := by
  have := (dx.1 hu).1
  simpa using this
 rw [getElem!_pos zv _ aK]
 rw [gX, getElem?_pos zv _ aK] at hu
 cases hu
 exact hr
def nR (P : Program) (t : TypeId) (n : Nat) (mu : Bool) (parts : List (Nat × AV)) : aA :=
 match dH P t with
 | some (e, sz) => match lW P e with
   | some z => .cond (n * sz <= 16777216) (ek (fun i => some (i * sz, sz)) parts (bw n z) fun cs => .cond (cs.length = n * sz) (if mu then .lf n sz e none cs else .val (.vec n .full cs)))
   | none => .bad
 | none => .bad
theorem wP (h : aS g U w) {t : TypeId} {n : Nat} {mu : Bool} {parts : List (Nat × AV)} {vs : Array (Nat × Value)} (hl : vs.size = parts.length) (hp : ∀ (i : Nat) (p : Nat × AV) (q : Nat × Value), parts[i]? = some p -> vs[i]? = some q -> p.1 = q.1 /\ ao g p.2 q.2) :
 aA.Fits C g U (nR C.P t n mu parts) ((do let r <- Instr.buildSlice t n vs; pure (Next.value r) : Sem Next).run C.P w) := by
 unfold nR
 split
 · rename_i e sz hs
   split
   · rename_i z hz
     intro hn
     obtain ⟨i, zv, hu, hi, kG, rE, rfl, jy, _, h1⟩ := fw hs
     obtain ⟨i', Uv, gK, pB, hm⟩ := jM hz
     rw [hi] at gK; cases gK
     rw [kG] at pB; cases pB
     obtain ⟨h1, h2⟩ := dm (g := g) hm
     have L5 : ¬ (n * i.size > 2 ^ 24) := by omega
     have SG := o5 (g := g) h1 n
     have key := p5 (C := C) (g := g) (U := U) (w := w) (place := fun j => some (j * i.size, i.size)) (k := fun cs => .cond (cs.length = n * i.size) (if mu then .lf n i.size e none cs else .val (.vec n .full cs)))
      (kk := fun cs => do pure (.slice (some (<- newRow e cs)) n n)) (S := "buildSlice: a part of the wrong size") (fun z cs hz xN => by
      intro hlen
      have pk : cs.size = n * i.size := by rw [<- oE, hz.length, hlen]
      have z8 : n <= maxLen := by
       have : n <= n * i.size := Nat.le_mul_of_pos_right _ jy
       unfold maxLen; omega
      simp only [newRow, bC, bT, run_newObj, bQ]
      split
      · have := mJ (C := C) (del := none) (e := e) (sz := i.size) (n := n) (c := n) h (vs := cs.toList) (rest := []) hz xN (by simp) (by simp [pk]) (cG _) z8
        simpa using this
      · obtain ⟨g', hle, j5, _, _, dw⟩ := h.II e cs cs.toList [] (by simp) xN
        refine ⟨_, _, g', .inl rfl, hle, dw, ?_⟩
        simp only [ao]
        exact ⟨w.heap.size, 0, n, cs.toList, rfl, cG _, z8, rfl, j5, hz.mono hle⟩) parts vs.toList (bw n z) ((Array.range (n * zv.cells.size)).map (zv.cells[· % zv.cells.size]!)) (by simpa using hl) (fun i p q h1 h2 => hp i p q h1 (by simpa using h2)) SG (by
        intro u hu
        simp only [Array.toList_map, List.mem_map] at hu
        obtain ⟨j, _, rfl⟩ := hu
        have aK : j % zv.cells.size < zv.cells.size := Nat.mod_lt _ (by omega)
        rw [getElem!_pos zv.cells _ aK]
        exact h2 _ (by simp))
     simp only [Instr.buildSlice, bC, run_underlying hu, dp hi, bQ, if_neg L5, dE, eB hi kG, bT]
     by_cases h0 : n * i.size = 0
     · have xU : n = 0 := by
        rcases Nat.mul_eq_zero.1 h0 with h | h
        · exact h
        · omega
       subst xU
       simp only [Nat.zero_mul, if_true, bQ] at key ⊢
       have e1 : (Array.range 0).map ((#[] : Array Value)[· % (#[] : Array Value).size]!) = (Array.range 0).map (zv.cells[· % zv.cells.size]!) := by simp
       rw [e1]
       cases hf : Instr.fill (fun j => some (j * i.size, i.size)) ((Array.range 0).map (zv.cells[· % zv.cells.size]!)) vs.toList with
       | none => simp only [hf, bC, run_stuck, Result.andThen_halt] at key ⊢; exact key
       | some xB => simp only [hf, bC, bT, bQ] at key ⊢; exact key
     · simp only [if_neg h0, bQ]
       rw [rE] at key ⊢
       cases hf : Instr.fill (fun j => some (j * i.size, i.size)) ((Array.range (n * i.size)).map (zv.cells[· % i.size]!)) vs.toList with
       | none => simp only [hf, bC, run_stuck, Result.andThen_halt] at key ⊢; exact key
       | some xB => simp only [hf, bC, bT, bQ] at key ⊢; exact key
   · trivial
 · trivial
def mU (P : Program) (t : TypeId) : Option (FK × TypeId) :=
 match P.underlying t with
 | some (.map k e) => match P.underlying k with
   | some (.int _) => some (.i, e)
   | some .string => some (.s, e)
   | _ => none
 | _ => none
def eR : FK -> AV -> AV -> Option Bool
 | .i, .int k a, .int k' b => if k = k' then some (a == b) else none
 | .s, .str a, .str b => some (a == b)
 | _, _, _ => none
def mQ : FK -> AV -> Bool
 | .i, .int _ _ => true
 | .s, .str _ => true
 | _, _ => false
def iU (fk : FK) (k : AV) : List AV -> Nat -> Option (Option Nat)
 | [], _ => some none
 | y :: ys, i => match eR fk k y with
   | none => none
   | some b => if b = true then some (some i) else iU fk k ys (i + 1)
def eF (k v : AV) : List AV -> List AV -> List AV × List AV
 | [], _ => ([k], [v])
 | y :: ys, ws => if ga k y = true then (k :: y :: ys, v :: ws) else
   match ws with
   | [] => ([k], [v])
   | x :: xs => (y :: (eF k v ys xs).1, x :: (eF k v ys xs).2)
def mV (P : Program) (t : TypeId) (m k v : AV) (U : St) : aA :=
 match mU P t, m with
 | some (fk, _), .mp id => match U.mp id with
   | some (ks, vs) => match iU fk k ks 0, mQ fk k with
     | some none, true => .iN (.aN []) id (.mp (eF k v ks vs).1 (eF k v ks vs).2)
     | some (some i), true => .iN (.aN []) id (.mp ks (vs.set i v))
     | _, _ => .bad
   | none => .bad
 | _, _ => .bad
def ju (U : St) : AV -> Option (List AV × List AV)
 | .mp id => U.mp id
 | .dY ks vs => some (ks, vs)
 | .jf => some ([], [])
 | _ => none
def jz (fk : FK) (k : AV) (uc : AV) (ok : Bool) : List AV -> List AV -> aA
 | y :: ys, v :: vs => match eR fk k y with
   | none => .bad
   | some b => if b = true then .val (if ok then .aN [v, .bool true] else v) else jz fk k uc ok ys vs
 | _, _ => .val (if ok then .aN [uc, .bool false] else uc)
def zeroV (P : Program) (t : TypeId) : Option AV := ((P.info? t).bind (·.zero)).map zP
def rM (P : Program) (t : TypeId) (m k : AV) (ok : Bool) (U : St) : aA :=
 match mU P t, ju U m with
 | some (fk, e), some (ks, vs) => match zeroV P e, mQ fk k with
   | some z, true => jz fk k z ok ks vs
   | _, _ => .bad
 | _, _ => .bad
theorem uD {P : Program} {t e : TypeId} {fk : FK} (h : mU P t = some (fk, e)) : ∃ k, P.underlying t = some (.map k e) /\ ((fk = .i /\ ∃ q, P.underlying k = some (.int q)) \/ (fk = .s /\ P.underlying k = some .string)) := by
 unfold mU at h
 split at h
 · rename_i k e' hu
   split at h
   · rename_i q hq
     simp only [fL, ji] at h
     obtain ⟨rfl, rfl⟩ := h
     exact ⟨k, hu, .inl ⟨rfl, q, hq⟩⟩
   · rename_i hq
     simp only [fL, ji] at h
     obtain ⟨rfl, rfl⟩ := h
     exact ⟨k, hu, .inr ⟨rfl, hq⟩⟩
   · cases h
 · cases h
theorem oV {P : Program} {k : TypeId} {fk : FK} {d : TypeDesc} (hd : P.underlying k = some d) (hk : (fk = .i /\ ∃ q, d = .int q) \/ (fk = .s /\ d = .string)) {x y : AV} {u v : Value} {b : Bool} (hx : ao g x u) (hy : ao g y v) (h : eR fk x y = some b) :
 Instr.sameNow d u v = some b := by
 rcases hk with ⟨rfl, q, rfl⟩ | ⟨rfl, rfl⟩ <;> cases x <;> cases y <;> simp only [eR, reduceCtorEq] at h
 · split at h
   · rename_i e; subst e
     simp only [ao] at hx hy; subst hx hy
     simp at h; subst h
     simp [Instr.sameNow]
   · cases h
 · simp only [ao] at hx hy; subst hx hy
   simp only [fL] at h; subst h
   simp only [Instr.sameNow, beq_toListBytes, ByteArray.toList_eq, List.toList_toArray]
theorem findNow_spec {d : TypeDesc} {u : Value} : ∀ (es : List MapEntry) (i : Nat), (∀ e ∈ es, ∃ b, Instr.sameNow d u e.key = some b) ->
 ((∀ e ∈ es, Instr.sameNow d u e.key = some false) /\ Instr.findNow d u es i = some none) \/
 (∃ j e, es[j]? = some e /\ Instr.sameNow d u e.key = some true /\ Instr.findNow d u es i = some (some (i + j, e.val)))
 | [], i, _ => .inl ⟨by simp, by simp [Instr.findNow]⟩
 | e :: es, i, h => by
   obtain ⟨b, hb⟩ := h e (by simp)
   cases b
   · rcases findNow_spec es (i + 1) (fun x hx => h x (by simp [hx])) with ⟨h1, h2⟩ | ⟨j, e', h1, h2, h3⟩
     · refine .inl ⟨fun x hx => ?_, by simp [Instr.findNow, hb, h2]⟩
       rcases dA.1 hx with rfl | hx
       · exact hb
       · exact h1 x hx
     · exact .inr ⟨j + 1, e', by simpa using h1, h2, by simp [Instr.findNow, hb, h3]; omega⟩
   · exact .inr ⟨0, e, by simp, hb, by simp [Instr.findNow, hb]⟩
theorem qN {fk : FK} {k y : AV} (h : eR fk k y = some true) : k = y := by
 cases fk <;> cases k <;> cases y <;> simp only [eR, reduceCtorEq] at h
 · split at h
   · rename_i e; subst e; simp at h; rw [h]
   · cases h
 · simp at h; rw [h]
theorem Ge (k : AV) : ga k k = false := by
 cases k <;> simp [ga]
theorem DQ {a b c : AV} (h : ga a b = true) (h' : ga b c = true) : ga a c = true := by
 cases a <;> cases b <;> simp only [ga, bu] at h <;> cases c <;> simp only [ga, bu, bM, dD] at h h' ⊢
 · exact ⟨h.1.trans h'.1, by omega⟩
 · exact List.lt_trans h h'
theorem Mb {fk : FK} {k y : AV} (h : eR fk k y = some false) : ga k y = true \/ ga y k = true := by
 cases fk <;> cases k <;> cases y <;> simp only [eR, reduceCtorEq] at h
 · split at h
   · rename_i e; subst e; simp at h; simp [ga]; omega
   · cases h
 · simp at h
   simp only [ga, dD]
   rcases Classical.em ((_ : List UInt8) < _) with hl | hl
   · exact .inl hl
   · refine .inr ?_
     rcases Classical.em ((_ : List UInt8) < _) with pr | pr
     · exact pr
     · exact absurd (List.le_antisymm (List.not_lt.1 pr) (List.not_lt.1 hl)) h
theorem x6 {fk : FK} {k y z : AV} (h : eR fk k y = some true) (hz : ga y z = true \/ ga z y = true) : ∃ b, eR fk k z = some b := by
 have := qN h
 subst this
 cases fk <;> cases k <;> cases z <;> simp [eR, ga] at h hz ⊢
 rcases hz with ⟨e, _⟩ | ⟨e, _⟩
 · exact e
 · exact e.symm
theorem so {fk : FK} {k : AV} : ∀ {ks : List AV} {s : Nat} {r : Option Nat}, iU fk k ks s = some r ->
 (r = none /\ ∀ y ∈ ks, eR fk k y = some false) \/ (∃ i, r = some (s + i) /\ ∃ y, ks[i]? = some y /\ eR fk k y = some true)
 | [], s, r, h => by simp only [iU, fL] at h; exact .inl ⟨h.symm, by simp⟩
 | y :: ys, s, r, h => by
   simp only [iU] at h
   split at h
   · cases h
   · rename_i b hb
     cases b
     · simp only [bu, if_false] at h
       rcases so h with ⟨h1, h2⟩ | ⟨i, h1, z, h2, h3⟩
       · refine .inl ⟨h1, fun z hz => ?_⟩
         rcases dA.1 hz with rfl | hz
         · exact hb
         · exact h2 z hz
       · exact .inr ⟨i + 1, by rw [h1]; congr 1; omega, z, by simpa using h2, h3⟩
     · simp only [if_true, fL] at h
       exact .inr ⟨0, by rw [<- h]; rfl, y, by simp, hb⟩
theorem GP {ks : List AV} (h : lF ks) {i j : Nat} {y : AV} (hi : ks[i]? = some y) (hj : ks[j]? = some y) : i = j := by
 have key : ∀ i j, i < j -> ks[i]? = some y -> ks[j]? = some y -> False := fun i j et hi hj => by
  obtain ⟨h1, h2⟩ := dx.1 hi
  obtain ⟨h3, h4⟩ := dx.1 hj
  have := List.pairwise_iff_getElem.1 h i j h1 h3 et
  rw [h2, h4, Ge] at this; cases this
 rcases Nat.lt_trichotomy i j with h | h | h
 · exact (key i j h hi hj).elim
 · exact h
 · exact (key j i h hj hi).elim
theorem wT {P : Program} {kt : TypeId} {fk : FK} {d : TypeDesc} (hd : P.underlying kt = some d) (hk : (fk = .i /\ ∃ q, d = .int q) \/ (fk = .s /\ d = .string)) {x : AV} {u : Value} (hx : ao g x u)
 {ks : List AV} {l es : List MapEntry} (hp : l.Perm es) (hs : lF ks) (hr : ax g ks (l.map (·.key))) {r : Option Nat} (h : iU fk x ks 0 = some r) :
 (r = none /\ (∀ y ∈ ks, eR fk x y = some false) /\ ∀ i, Instr.findNow d u es i = some none) \/
 (∃ i j e, r = some i /\ ks[i]? = some x /\ l[i]? = some e /\ es[j]? = some e /\ ao g x e.key /\ ∀ s, Instr.findNow d u es s = some (some (s + j, e.val))) := by
 have mem : ∀ e ∈ es, ∃ i y, ks[i]? = some y /\ l[i]? = some e /\ ao g y e.key := fun e he => by
  obtain ⟨i, hi⟩ := List.getElem?_of_mem (hp.mem_iff.2 he)
  have aK : i < ks.length := by
   have h1 := (dx.1 hi).1
   have := hr.length
   simp at this; omega
  obtain ⟨v, hv, Ic⟩ := hr.get (i := i) (x := ks[i]) (kL aK)
  rw [jE, hi] at hv
  simp at hv
  subst hv
  exact ⟨i, ks[i], kL aK, hi, Ic⟩
 rcases so h with ⟨rfl, h1⟩ | ⟨i, rfl, y, h1, h2⟩
 · refine .inl ⟨rfl, h1, fun s => ?_⟩
   have hf : ∀ e ∈ es, Instr.sameNow d u e.key = some false := fun e he => by
    obtain ⟨i, y, hy, _, Ad⟩ := mem e he
    exact oV (P := P) hd hk hx Ad (h1 y (fS hy))
   rcases findNow_spec es s (fun e he => ⟨_, hf e he⟩) with ⟨_, h2⟩ | ⟨j, e, q1, q2, _⟩
   · exact h2
   · rw [hf e (fS q1)] at q2; cases q2
 · have we := qN h2
   subst we
   have all : ∀ z ∈ ks, ∃ b, eR fk x z = some b := fun z hz => by
    obtain ⟨j, hj⟩ := List.getElem?_of_mem hz
    rcases Nat.lt_trichotomy i j with et | et | et
    · obtain ⟨a1, a2⟩ := dx.1 h1
      obtain ⟨a3, a4⟩ := dx.1 hj
      have := List.pairwise_iff_getElem.1 hs i j a1 a3 et
      rw [a2, a4] at this
      exact x6 h2 (.inl this)
    · subst et; rw [h1] at hj; cases hj; exact ⟨_, h2⟩
    · obtain ⟨a1, a2⟩ := dx.1 h1
      obtain ⟨a3, a4⟩ := dx.1 hj
      have := List.pairwise_iff_getElem.1 hs j i a3 a1 et
      rw [a2, a4] at this
      exact x6 h2 (.inr this)
   have same : ∀ e ∈ es, ∃ b, Instr.sameNow d u e.key = some b := fun e he => by
    obtain ⟨i, y, hy, _, Ad⟩ := mem e he
    obtain ⟨b, hb⟩ := all y (fS hy)
    exact ⟨b, oV (P := P) hd hk hx Ad hb⟩
   have qe : ∃ e0, l[i]? = some e0 /\ ao g x e0.key := by
    obtain ⟨v, hv, Ic⟩ := hr.get h1
    rw [jE, lD] at hv
    obtain ⟨e0, h3, rfl⟩ := hv
    exact ⟨e0, h3, Ic⟩
   obtain ⟨e0, zY, RY⟩ := qe
   have Wu : Instr.sameNow d u e0.key = some true := oV (P := P) hd hk hx RY h2
   have Zx : e0 ∈ es := hp.mem_iff.1 (fS zY)
   have pick : ∀ s, ∃ j, es[j]? = some e0 /\ Instr.findNow d u es s = some (some (s + j, e0.val)) := fun s => by
    rcases findNow_spec es s same with ⟨q1, _⟩ | ⟨j, e, q1, q2, q3⟩
    · rw [q1 e0 Zx] at Wu; cases Wu
    · obtain ⟨i', y, hy, z6, Ad⟩ := mem e (fS q1)
      obtain ⟨b, hb⟩ := all y (fS hy)
      have EA := oV (P := P) hd hk hx Ad hb
      rw [q2] at EA
      simp only [fL] at EA
      subst EA
      have we := qN hb
      subst we
      have hii := GP hs h1 hy
      subst hii
      rw [zY] at z6; cases z6
      exact ⟨j, q1, q3⟩
   obtain ⟨j, hj, hjf⟩ := pick 0
   refine .inr ⟨i, j, e0, by rw [cD], h1, zY, hj, RY, fun s => ?_⟩
   have shift : ∀ (es : List MapEntry) (a b : Nat) j v, Instr.findNow d u es a = some (some (a + j, v)) -> Instr.findNow d u es b = some (some (b + j, v)) := fun es => by
    induction es with
    | nil => intro a b j v h; simp [Instr.findNow] at h
    | cons e es ih =>
      intro a b j v h
      simp only [Instr.findNow] at h ⊢
      cases Ab : Instr.sameNow d u e.key with
      | none => rw [Ab] at h; cases h
      | some t =>
        rw [Ab] at h
        cases t
        · dsimp only at h ⊢
          have hle : ∀ (es : List MapEntry) (a : Nat) r v, Instr.findNow d u es a = some (some (r, v)) -> a <= r := fun es => by
           induction es with
           | nil => intro a r v h; simp [Instr.findNow] at h
           | cons e es ih =>
             intro a r v h
             simp only [Instr.findNow] at h
             cases Ab : Instr.sameNow d u e.key with
             | none => rw [Ab] at h; cases h
             | some t =>
               rw [Ab] at h
               cases t
               · have := ih _ _ _ h; omega
               · simp at h; omega
          have h1 := hle _ _ _ _ h
          have := ih (a + 1) (b + 1) (j - 1) v (by rw [h]; congr 3; omega)
          rw [this]; congr 3; omega
        · simp at h ⊢; obtain ⟨h1, h2⟩ := h; exact ⟨by omega, h2⟩
   exact shift es 0 s j _ hjf
theorem Mq {α : Type} {l m : List α} (h : l.Perm m) {i j : Nat} {e : α} (hi : l[i]? = some e) (hj : m[j]? = some e) (e' : α) : (l.set i e').Perm (m.set j e') := by
 obtain ⟨h1, h2⟩ := dx.1 hi
 obtain ⟨h3, h4⟩ := dx.1 hj
 have el : l = l.take i ++ e :: l.drop (i + 1) := by
  conv => lhs; rw [<- List.take_append_drop i l, gp h1, h2]
 have em : m = m.take j ++ e :: m.drop (j + 1) := by
  conv => lhs; rw [<- List.take_append_drop j m, gp h3, h4]
 rw [List.set_eq_take_append_cons_drop, if_pos h1, List.set_eq_take_append_cons_drop, if_pos h3]
 have hp : (l.take i ++ e :: l.drop (i + 1)).Perm (m.take j ++ e :: m.drop (j + 1)) := by rw [<- el, <- em]; exact h
 have h5 := (List.perm_middle.symm.trans hp).trans List.perm_middle
 have h6 := List.Perm.cons_inv h5
 exact (List.perm_middle.trans (h6.cons e')).trans List.perm_middle.symm
theorem run_checkKey {P : Program} {k : TypeId} {d : TypeDesc} {em : Bool} (hd : P.underlying k = some d) (hk : (∃ q, d = .int q) \/ d = .string) (n : Nat) (v : Value) : (Instr.checkKey em (n + 1) k v).run P w = .ok () w := by
 rcases hk with ⟨q, rfl⟩ | rfl <;> simp [Instr.checkKey, run_underlying hd]
theorem ax.set : ∀ {l : List AV} {vs : List Value} {x : AV} {u : Value} (i : Nat), ax g l vs -> ao g x u -> ax g (l.set i x) (vs.set i u)
 | [], _, _, _, _, h, _ => by simp only [ax] at h; subst h; simp [ax]
 | y :: ys, _, x, u, 0, h, hx => by
   simp only [ax] at h
   obtain ⟨v, vs, rfl, h1, h2⟩ := h
   simp only [List.set_cons_zero, ax]
   exact ⟨u, vs, rfl, hx, h2⟩
 | y :: ys, _, x, u, i + 1, h, hx => by
   simp only [ax] at h
   obtain ⟨v, vs, rfl, h1, h2⟩ := h
   simp only [List.set_cons_succ, ax]
   exact ⟨v, _, rfl, h1, ax.set i h2 hx⟩
theorem Cu {k v : AV} {e : MapEntry} (hk : ao g k e.key) (hv : ao g v e.val) : ∀ (ks vs : List AV) (l : List MapEntry), ax g ks (l.map (·.key)) -> ax g vs (l.map (·.val)) ->
 ∃ l' : List MapEntry, l'.Perm (e :: l) /\ ax g (eF k v ks vs).1 (l'.map (·.key)) /\ ax g (eF k v ks vs).2 (l'.map (·.val))
 | [], vs, l, h1, h2 => by
   simp only [ax, List.map_eq_nil_iff] at h1
   subst h1
   exact ⟨[e], List.Perm.refl _, by simp only [eF, dN, ke, ax]; exact ⟨_, _, rfl, hk, rfl⟩, by simp only [eF, dN, ke, ax]; exact ⟨_, _, rfl, hv, rfl⟩⟩
 | y :: ks, vs, [], h1, h2 => by simp [ax] at h1
 | y :: ks, [], f :: l, h1, h2 => by simp [ax] at h2
 | y :: ks, x :: vs, f :: l, h1, h2 => by
   simp only [eF]
   by_cases aK : ga k y = true
   · rw [if_pos aK]
     exact ⟨e :: f :: l, List.Perm.refl _, by rw [dN]; simp only [ax] at h1 ⊢; exact ⟨_, _, rfl, hk, h1⟩, by rw [dN]; simp only [ax] at h2 ⊢; exact ⟨_, _, rfl, hv, h2⟩⟩
   · rw [if_neg aK]
     simp only [ax, dN, List.cons.injEq] at h1 h2
     obtain ⟨_, _, ⟨rfl, rfl⟩, hy, h1⟩ := h1
     obtain ⟨_, _, ⟨rfl, rfl⟩, hx, h2⟩ := h2
     obtain ⟨l', h3, h4, h5⟩ := Cu hk hv ks vs l h1 h2
     exact ⟨f :: l', ((h3.cons f).trans (List.Perm.swap e f l)), by simp only [dN, ax]; exact ⟨_, _, rfl, hy, h4⟩, by simp only [dN, ax]; exact ⟨_, _, rfl, hx, h5⟩⟩
theorem sC {k v : AV} : ∀ (ks vs : List AV) (z : AV), z ∈ (eF k v ks vs).1 -> z = k \/ z ∈ ks
 | [], vs, z, h => by simp [eF] at h; exact .inl h
 | y :: ks, vs, z, h => by
   simp only [eF] at h
   split at h
   · simpa using h
   · split at h
     · simp at h; exact .inl h
     · rename_i x xs
       simp only [dA] at h ⊢
       rcases h with h | h
       · exact .inr (.inl h)
       · rcases sC ks xs z h with h | h
         · exact .inl h
         · exact .inr (.inr h)
theorem wh {k v : AV} : ∀ (ks vs : List AV), lF ks -> (∀ y ∈ ks, ga k y = true \/ ga y k = true) -> lF (eF k v ks vs).1
 | [], vs, h1, h2 => by simp [eF, lF]
 | y :: ks, vs, h1, h2 => by
   unfold lF at h1 ⊢
   rw [List.pairwise_cons] at h1
   simp only [eF]
   split
   · rename_i aK
     rw [List.pairwise_cons, List.pairwise_cons]
     refine ⟨fun z hz => ?_, h1⟩
     rcases dA.1 hz with rfl | hz
     · exact aK
     · exact DQ aK (h1.1 z hz)
   · rename_i aK
     split
     · simp
     · rename_i x xs
       rw [List.pairwise_cons]
       refine ⟨fun z hz => ?_, wh ks xs h1.2 fun z hz => h2 z (by simp [hz])⟩
       rcases sC ks xs z hz with rfl | hz
       · rcases h2 y (by simp) with h | h
         · exact absurd h aK
         · exact h
       · exact h1.1 z hz
theorem gP.push {es : Array MapEntry} {clock : Nat} (h : gP es clock) (k v : Value) : gP (es.push ⟨k, v, clock⟩) (clock + 1) := by
 obtain ⟨h1, h2⟩ := h
 refine ⟨?_, fun e he => ?_⟩
 · simp only [Array.toList_push, List.map_append, dN, ke]
   rw [List.nodup_append]
   refine ⟨h1, by simp, fun a ha b hb => ?_⟩
   simp at hb
   subst hb
   obtain ⟨e, he, rfl⟩ := List.mem_map.1 ha
   exact Nat.ne_of_lt (h2 e he)
 · simp only [Array.toList_push, eH, kM] at he
   rcases he with he | rfl
   · have := h2 e he; omega
   · simp
theorem vN {es : Array MapEntry} {j : Nat} {e : MapEntry} (hj : es.toList[j]? = some e) (f : MapEntry -> MapEntry) : (es.modify j f).toList = es.toList.set j (f e) := by
 apply List.ext_getElem?
 intro i
 simp only [Array.toList_modify, List.getElem?_modify, List.getElem?_set]
 by_cases et : j = i
 · subst et
   have aK := (dx.1 hj).1
   simp only [if_true, hj, if_pos aK]; rfl
 · simp only [if_neg et]
   cases es.toList[i]? <;> rfl
theorem gP.modify {es rp : Array MapEntry} {clock : Nat} (h : gP es clock) {j : Nat} {e e' : MapEntry} (hj : es.toList[j]? = some e) (hb : e'.born = e.born) (he : rp.toList = es.toList.set j e') : gP rp clock := by
 have hm : rp.toList.map (·.born) = es.toList.map (·.born) := by
  rw [he, List.map_set, hb]
  apply List.ext_getElem?
  intro i
  rw [List.getElem?_set]
  split
  · rename_i et
    subst et
    rw [jE, hj]
    have aK := (dx.1 hj).1
    simp at aK ⊢; exact aK
  · rfl
 refine ⟨by rw [hm]; exact h.1, fun x hx => ?_⟩
 have : x.born ∈ rp.toList.map (·.born) := List.mem_map_of_mem hx
 rw [hm] at this
 obtain ⟨y, hy, SE⟩ := List.mem_map.1 this
 rw [<- SE]; exact h.2 y hy
theorem qo (h : aS g U w) {t : TypeId} {m k x : AV} {vm vk vx : Value} (hm : ao g m vm) (hk : ao g k vk) (hx : ao g x vx) :
 aA.Fits C g U (mV C.P t m k x U) ((do Instr.mapUpdate t vm vk vx; pure Next.skip : Sem Next).run C.P w) := by
 unfold mV
 split
 · rename_i fk e id ht
   split
   · rename_i ks vs B6
     obtain ⟨kt, hu, Sf⟩ := uD ht
     obtain ⟨d, hd, B0⟩ : ∃ d, C.P.underlying kt = some d /\ ((fk = .i /\ ∃ q, d = .int q) \/ (fk = .s /\ d = .string)) := by
      rcases Sf with ⟨rfl, q, hq⟩ | ⟨rfl, hq⟩
      · exact ⟨_, hq, .inl ⟨rfl, q, rfl⟩⟩
      · exact ⟨_, hq, .inr ⟨rfl, rfl⟩⟩
     have LZ : (∃ q, d = .int q) \/ d = .string := B0.imp (·.2) (·.2)
     simp only [ao] at hm
     obtain ⟨r, hr, rfl⟩ := hm
     obtain ⟨r', es, clock, q1, q2, q3, qb, ⟨l, q4, q5, q6, q7⟩, q8⟩ := h.mp id _ B6
     rw [hr] at q1; cases q1
     have oA : (getObj r).run C.P w = .ok (.map es clock) w := by simp [getObj, Sem.run, q3]
     have HV := run_checkKey (P := C.P) (w := w) (em := false) hd LZ 9999 vk
     have zf : ∀ o, (setObj r o).run C.P w = .ok () { w with heap := w.heap.setIfInBounds r o } := fun o => by simp [setObj, Sem.run, q3]
     split
     · rename_i hf Es
       rcases wT (P := C.P) hd B0 hk q4 q5 q6 hf with ⟨_, ha, hn⟩ | ⟨i, _, _, he, _⟩
       · simp only [Instr.mapUpdate, bC, run_underlying hu, bQ, oA, HV, Instr.findKey, run_underlying hd, hn, bT, zf]
         obtain ⟨l', p1, p2, p3⟩ := Cu (e := ⟨vk, vx, clock⟩) hk hx ks vs l q6 q7
         refine ⟨undef, _, g, .inr ⟨rfl, rfl⟩, Gh.Le.refl g, h.Je B6 (kv' := eF k x ks vs) hr q3 ⟨l', ?_, ?_, p2, p3⟩ (qb.push vk vx), by simp only [ao]; exact ⟨[], rfl, by simp [ax]⟩⟩
         · rw [Array.toList_push]
           exact (p1.trans (q4.cons _)).trans (List.perm_append_singleton _ _).symm
         · exact wh ks vs q5 fun y hy => Mb (ha y hy)
       · cases he
     · rename_i i hf Es
       rcases wT (P := C.P) hd B0 hk q4 q5 q6 hf with ⟨he, _⟩ | ⟨i', j, e, he, Se, qe, HW, NK, hn⟩
       · cases he
       · cases he
         have xU := hn 0
         rw [cD] at xU
         have aK : j < es.size := by
          have := (dx.1 HW).1
          simpa using this
         have X5 : es[j]? = some e := by rw [<- gX]; exact HW
         have VD : Instr.sameBits 10000 e.key vk = true := by
          rcases B0 with ⟨rfl, _⟩ | ⟨rfl, _⟩ <;> cases k <;> simp only [mQ, bu] at Es
          · simp only [ao] at hk NK; rw [hk, NK]; simp [Instr.sameBits]
          · simp only [ao] at hk NK; rw [hk, NK]; simp [Instr.sameBits, beq_toListBytes]
         have EA : (Instr.keyThatStays e.key vk).run C.P w = .ok vk w := by simp [Instr.keyThatStays, VD]
         have Yb : ((es[j]?).map (·.key)).getD vk = e.key := by rw [X5]; rfl
         simp only [Instr.mapUpdate, bC, run_underlying hu, bQ, oA, HV, Instr.findKey, run_underlying hd, xU, bT, zf, Yb, EA]
         have So := vN HW (fun e => { e with key := vk, val := vx })
         refine ⟨undef, _, g, .inr ⟨rfl, rfl⟩, Gh.Le.refl g, h.Je B6 (kv' := (ks, vs.set i x)) hr q3 ⟨l.set i { e with key := vk, val := vx }, ?_, q5, ?_, ?_⟩ (qb.modify (e' := { e with key := vk, val := vx }) HW rfl So), by simp only [ao]; exact ⟨[], rfl, by simp [ax]⟩⟩
         · rw [So]; exact Mq q4 qe HW _
         · rw [List.map_set]
           have := q6.set i hk
           have e1 : ks.set i k = ks := by
            apply List.ext_getElem?
            intro a
            rw [List.getElem?_set]
            split
            · rename_i ha; subst ha
              split
              · exact Se.symm
              · rename_i hn; exact absurd (dx.1 Se).1 hn
            · rfl
           rw [e1] at this; exact this
         · rw [List.map_set]; exact q7.set i hx
     · trivial
   · trivial
 · trivial
theorem x8 {fk : FK} {k z : AV} {ok : Bool} : ∀ (ks vs : List AV) (s : Nat), ks.length = vs.length -> jz fk k z ok ks vs = (match iU fk k ks s with
 | none => .bad
 | some none => .val (if ok then .aN [z, .bool false] else z)
 | some (some i) => .val (if ok then .aN [vs.getD (i - s) z, .bool true] else vs.getD (i - s) z))
 | [], [], s, _ => by simp [jz, iU]
 | [], _ :: _, s, h => by simp at h
 | _ :: _, [], s, h => by simp at h
 | y :: ks, v :: vs, s, h => by
   simp only [jz, iU]
   cases hb : eR fk k y with
   | none => rfl
   | some b =>
     cases b
     · simp only [bu, if_false]
       rw [x8 ks vs (s + 1) (by simpa using h)]
       cases hf : iU fk k ks (s + 1) with
       | none => rfl
       | some r =>
         cases r with
         | none => rfl
         | some i =>
           rcases so hf with ⟨h1, _⟩ | ⟨i', h1, _⟩
           · cases h1
           · cases h1
             have e1 : s + 1 + i' - (s + 1) = i' := by omega
             have e2 : s + 1 + i' - s = i' + 1 := by omega
             simp only [e1, e2, List.getD_cons_succ]
     · simp only [if_true, Nat.sub_self, List.getD_cons_zero]
theorem CE (h : aS g U w) {t : TypeId} {m k : AV} {vm vk : Value} {ok : Bool} (hm : ao g m vm) (hk : ao g k vk) :
 aA.Fits C g U (rM C.P t m k ok U) ((do let r <- Instr.lookup t vm vk ok; pure (Next.value r) : Sem Next).run C.P w) := by
 unfold rM
 split
 · rename_i fk e ks vs ht he
   split
   · rename_i z hz Es
     obtain ⟨kt, hu, Sf⟩ := uD ht
     obtain ⟨d, hd, B0⟩ : ∃ d, C.P.underlying kt = some d /\ ((fk = .i /\ ∃ q, d = .int q) \/ (fk = .s /\ d = .string)) := by
      rcases Sf with ⟨rfl, q, hq⟩ | ⟨rfl, hq⟩
      · exact ⟨_, hq, .inl ⟨rfl, q, rfl⟩⟩
      · exact ⟨_, hq, .inr ⟨rfl, rfl⟩⟩
     have LZ : (∃ q, d = .int q) \/ d = .string := B0.imp (·.2) (·.2)
     obtain ⟨i, vz, hi, pB, Ih⟩ : ∃ i vz, C.P.info? e = some i /\ i.zero = some vz /\ zP vz = z := by
      unfold zeroV at hz
      cases hi : C.P.info? e with
      | none => simp [hi] at hz
      | some i =>
        cases kG : i.zero with
        | none => simp [hi, kG] at hz
        | some vz => simp [hi, kG] at hz; exact ⟨i, vz, rfl, kG, hz⟩
     have Oa : ao g z vz := by rw [<- Ih]; exact yY vz
     obtain ⟨es, uq, l, hp, Yl, h1, h2⟩ : ∃ es : Array MapEntry, ((vm = .map none /\ es = #[]) \/ ∃ r clock, vm = .map (some r) /\ w.heap[r]? = some (Obj.map es clock)) /\ sc g ks vs es := by
      cases m <;> simp only [ju, reduceCtorEq, fL, ji] at he
      · obtain ⟨rfl, rfl⟩ := he
        simp only [ao] at hm; subst hm
        exact ⟨#[], .inl ⟨rfl, rfl⟩, [], List.Perm.refl _, by simp [lF], by simp [ax], by simp [ax]⟩
      · simp only [ao] at hm
        obtain ⟨r, hr, rfl⟩ := hm
        obtain ⟨r', es, clock, q1, q2, q3, _, q4, _⟩ := h.mp _ _ he
        rw [hr] at q1; cases q1
        exact ⟨es, .inr ⟨r, clock, rfl, q3⟩, q4⟩
      · obtain ⟨rfl, rfl⟩ := he
        simp only [ao] at hm
        obtain ⟨r, es, clock, l, rfl, hr, q0, q1, q2, q3⟩ := hm
        exact ⟨es, .inr ⟨r, clock, rfl, (h.bo r es clock hr).1⟩, l, q0, q1, q2, q3⟩
     have hlen : ks.length = vs.length := by
      have a := h1.length
      have b := h2.length
      simp at a b; omega
     rw [x8 ks vs 0 hlen]
     cases hf : iU fk k ks 0 with
     | none => trivial
     | some r =>
       have HV := run_checkKey (P := C.P) (w := w) (em := es.isEmpty) hd LZ 9999 vk
       have key := wT (P := C.P) hd B0 hk hp Yl h1 hf
       have fin : ∀ q : Option (Nat × Value), Instr.findNow d vk es.toList 0 = some q -> (Instr.lookup t vm vk ok).run C.P w = (match q with
        | some (_, v) => .ok (if ok then .tuple #[v, .bool true] else v) w
        | none => .ok (if ok then .tuple #[vz, .bool false] else vz) w) := fun q hq => by
        rcases uq with ⟨rfl, rfl⟩ | ⟨r, clock, rfl, hh⟩
        · simp only [Instr.lookup, bC, run_underlying hu, bQ, bT, HV, Instr.findKey, run_underlying hd, hq]
          cases q with
          | none => simp only [bT, bQ, bC, eB hi pB]
          | some p => rfl
        · have oA : (getObj r).run C.P w = .ok (Obj.map es clock) w := by simp [getObj, Sem.run, hh]
          simp only [Instr.lookup, bC, run_underlying hu, bQ, bT, oA, HV, Instr.findKey, run_underlying hd, hq]
          cases q with
          | none => simp only [bT, bQ, bC, eB hi pB]
          | some p => rfl
       rcases key with ⟨rfl, _, hn⟩ | ⟨i, j, e, rfl, _, qe, _, _, hn⟩
       · simp only [bC, fin _ (hn 0), bQ, bT]
         refine aO h ?_
         cases ok
         · exact Oa
         · simp only [if_true, ao]
           exact ⟨[vz, .bool false], rfl, by simp only [ax]; exact ⟨_, _, rfl, Oa, _, _, rfl, by simp only [ao], rfl⟩⟩
       · simp only [bC, fin _ (hn 0), bQ, bT, Nat.sub_zero]
         have hv : ao g (vs.getD i z) e.val := by
          have aK : i < vs.length := by
           have a := (dx.1 qe).1
           have b := h2.length
           simp at b; omega
          obtain ⟨v, hv, Ic⟩ := h2.get (i := i) (x := vs[i]) (kL aK)
          rw [jE, qe] at hv
          simp at hv
          subst hv
          have : vs.getD i z = vs[i] := by simp [zp, aK]
          rw [this]; exact Ic
         refine aO h ?_
         cases ok
         · exact hv
         · simp only [if_true, ao]
           exact ⟨[e.val, .bool true], rfl, by simp only [ax]; exact ⟨_, _, rfl, hv, _, _, rfl, by simp only [ao], rfl⟩⟩
   · trivial
 · trivial
theorem Gv (h : aS g U w) : aA.Fits C g U .A7 (.ok (.value (.map (some w.heap.size))) (w.alloc (.map #[] 0))) := by
 obtain ⟨b, g', h1, h2, h3, h4⟩ := h.pF (.map #[] 0) 0 0 (.mp [] []) fun g' hle hi hm => ⟨#[], 0, heap_alloc_new w _, ⟨by simp, by simp⟩, ⟨[], List.Perm.refl _, by simp [lF], by simp [ax], by simp [ax]⟩, hm⟩
 exact ⟨_, _, g', b, rfl, h1, h2, h4, by simp only [NV.at, ao]; exact ⟨_, Gh.lO.2 ⟨_, h3, rfl⟩, rfl⟩⟩
end
end Go.Rip
namespace Go.Rip
open Go.RowKit
def bF (c a b : AV) : aA :=
 match c with
 | .bool t => .val (if t = true then a else b)
 | _ => .bad
def vq (P : Program) (s f : Nat) : Option (Nat × Bool × Nat) :=
 match P.underlying s with
 | some (.struct fields) => match fields[f]? with
   | some x => match kh P x.type with
     | some (b, n) => some (x.offset, b, n)
     | none => none
   | none => none
 | _ => none
def ug (P : Program) (s : TypeId) (x : AV) (f : Nat) : aA :=
 match vq P s f, x with
 | some (o, true, n), .agg l => .cond (o + n <= l.length) (.val (.agg ((l.drop o).take n)))
 | some (o, false, _), .agg l => fl (l.drop o)
 | _, _ => .bad
def fo (P : Program) (f : AV) (args : List AV) : aA :=
 match f with
 | .func (.func g) first cap => if dj P g = true then .enter g (first ++ args ++ cap) else .bad
 | .oy o => .yield o args
 | _ => .bad
def CX (P : Program) (t : TypeId) (m : AV) : aA :=
 match mU P t, m with
 | some _, .dY ks vs => .new .it none (.iter (ks.zip vs) none)
 | _, _ => .bad
def oZ : List (AV × AV) -> List ((AV × AV) × List (AV × AV))
 | [] => []
 | x :: xs => (x, xs) :: (oZ xs).map fun p => (p.1, x :: p.2)
def oY (i : AV) (U : St) : aA :=
 match i with
 | .it o => match U.iter o with
   | some ([], _) => .val (.aN [.bool false])
   | some (x :: xs, _) => .il o ((oZ (x :: xs)).map fun p => (.aN [.bool true, p.1.1, p.1.2], .iter p.2 (some p.1)))
   | none => .bad
 | _ => .bad
def lH (i : AV) (U : St) : aA :=
 match i with
 | .it o => match U.iter o with
   | some (_, some kv) => .val (.aN [kv.1, kv.2])
   | _ => .bad
 | _ => .bad
def vi (P : Program) (t : TypeId) : Option AV :=
 match P.underlying t with
 | some (.interface _) => none
 | some _ => zeroV P t
 | none => none
def qZ (P : Program) (x : AV) (t : TypeId) (ok : Bool) : aA :=
 match vi P t, x with
 | some z, .iface u v => if u = t then .val (if ok then .aN [v, .bool true] else v) else if ok then .val (.aN [z, .bool false]) else .bad
 | some z, .cA => if ok then .val (.aN [z, .bool false]) else .bad
 | _, _ => .bad
def oW (P : Program) (t : TypeId) (mu : Bool) (l c : AV) : aA :=
 match dH P t, l, c with
 | some (e, sz), .int _ l, .int _ c => match lW P e with
   | some z => .cond (0 <= l /\ l = c /\ c <= 65536) (if mu then .lf l.toNat sz e none (bw l.toNat z) else .jS l.toNat (bw l.toNat z) none ⟨l.toNat, e, sz⟩)
   | none => .bad
 | _, _, _ => .bad
def tZ (P : Program) (t : TypeId) (x : AV) (U : St) : aA :=
 match dH P t, x with
 | some (e, sz), .ms b off n fW _ => match U.box b, lW P e with
   | some l, some z => .cond (fW = sz /\ off + n * sz <= l.length) (.iN (.aN []) b (.box (aw l off (bw n z))))
   | _, _ => .bad
 | _, _ => .bad
def xH (P : Program) (t u : TypeId) : Option (TypeId × Nat × List AV) :=
 match P.underlying u with
 | some (.int _) => match dH P t with
   | some (e, sz) => match lW P e with
     | some z => some (e, sz, z)
     | none => none
   | none => none
 | _ => none
def vr (q : TypeId × Nat × List AV) (mu : Bool) (s y : AV) : aA :=
 match s, y with
 | .ag, .int _ n => .cond (0 < n /\ n <= 65536) (if mu then .lf n.toNat q.2.1 q.1 none (bw n.toNat q.2.2) else .jS n.toNat (bw n.toNat q.2.2) none ⟨n.toNat, q.1, q.2.1⟩)
 | _, _ => .bad
def tX (st : Option (TypeId × Nat)) (x : AV) : aA := match st, x with
 | some _, .ag => .val (.int .i64 0)
 | _, _ => .bad
def vg (P : Program) (t u : TypeId) (mu : Bool) (s y : AV) (U : St) : aA :=
 match xH P t u with
 | some q => vr q mu s y
 | none => yQ P t u mu s y U
def vj (C : bX) (mu : Bool) (c : Call) (ρ : Env) (U : St) : aA :=
 match c.callee, c.argTypes.toList, c.args.toList with
 | .value f, _, args => fo C.P (ρ.ev C f) (args.map (ρ.ev C))
 | .builtin .len, [t], [x] => CC C.P t (ρ.ev C x) U
 | .builtin .append, [t, u], [s, y] => vg C.P t u mu (ρ.ev C s) (ρ.ev C y) U
 | .builtin .cap, [t], [x] => tX (dH C.P t) (ρ.ev C x)
 | .builtin .min, _, [x, y] => uE (ρ.ev C x) (ρ.ev C y)
 | .builtin .max, _, [x, y] => wZ (ρ.ev C x) (ρ.ev C y)
 | .builtin .clear, [t], [x] => tZ C.P t (ρ.ev C x) U
 | _, _, _ => .bad
def gh (C : bX) (mu : Bool) (o : Op) (ρ : Env) (U : St) : aA :=
 match o with
 | .move x | .assign x => .val (ρ.ev C x)
 | .pick c a b => bF (ρ.ev C c) (ρ.ev C a) (ρ.ev C b)
 | .alloc t => Bq C.P t
 | .box _ x => ez (ρ.ev C x)
 | .build t parts => Bx C.P t (jb C ρ parts)
 | .buildSlice t n parts => nR C.P t n mu (jb C ρ parts)
 | .insert t m k v | .mapUpdate t m k v => mV C.P t (ρ.ev C m) (ρ.ev C k) (ρ.ev C v) U
 | .load t a => qk C.P t (ρ.ev C a) U
 | .store t a v => C9 C.P t (ρ.ev C a) (ρ.ev C v) U
 | .nilCheck x => bh (ρ.ev C x)
 | .binOp op t x y _ => Bv C.P op t (isLit x || isLit y) (ρ.ev C x) (ρ.ev C y)
 | .unOp op _ x => gM op (ρ.ev C x)
 | .convert s d x => AZ C.P s d (ρ.ev C x)
 | .makeInterface t x => sG C.P t (ρ.ev C x)
 | .makeFunc fn first cap => .val (.func fn (first.toList.map (ρ.ev C)) (cap.toList.map (ρ.ev C)))
 | .makeMap _ none => .A7
 | .slice t x lo hi none => C3 C.P t (ρ.ev C x) (lo.map (ρ.ev C)) (hi.map (ρ.ev C))
 | .fieldAddr s x f => sk C.P s (ρ.ev C x) f
 | .field s x f => ug C.P s (ρ.ev C x) f
 | .indexAddr t x i => sB C.P t (ρ.ev C x) (ρ.ev C i)
 | .index t x i => xZ C.P t (ρ.ev C x) (ρ.ev C i)
 | .lookup t m k ok => rM C.P t (ρ.ev C m) (ρ.ev C k) ok U
 | .extract t i => aV (ρ.ev C t) i
 | .panic x => mW (ρ.ev C x)
 | .range t m => CX C.P t (ρ.ev C m)
 | .typeAssert x _ t ok => qZ C.P (ρ.ev C x) t ok
 | .makeSlice t l c => oW C.P t mu (ρ.ev C l) (ρ.ev C c)
 | .next i false => oY (ρ.ev C i) U
 | .entry i => lH (ρ.ev C i) U
 | .call c => vj C mu c ρ U
 | _ => .bad
section
variable {C : bX} {g : Gh} {U : St} {w : World}
theorem y7 (h : aS g U w) {s f : Nat} {x : AV} {v : Value} (hx : ao g x v) : aA.Fits C g U (ug C.P s x f) ((do let r <- Instr.field s v f; pure (Next.value r) : Sem Next).run C.P w) := by
 unfold ug
 have key : ∀ {o b n}, vq C.P s f = some (o, b, n) -> ∃ fs y i d, C.P.underlying s = some (.struct fs) /\ fs[f]? = some y /\ y.offset = o /\ C.P.info? y.type = some i /\ C.P.underlying y.type = some d /\ yP d = b /\ i.size = n := fun {o b n} hf => by
  unfold vq at hf
  split at hf
  · rename_i fs hu
    split at hf
    · rename_i y hy
      split at hf
      · rename_i b' n' hv
        simp only [fL, ji] at hf
        obtain ⟨rfl, rfl, rfl⟩ := hf
        obtain ⟨i, d, h1, h2, h3, h4⟩ := kS hv
        exact ⟨fs, y, i, d, hu, hy, rfl, h1, h2, h3, h4⟩
      · cases hf
    · cases hf
  · cases hf
 split
 · rename_i o n l hf
   obtain ⟨fs, y, i, d, hu, hy, rfl, hi, hd, ha, rfl⟩ := key hf
   intro hle
   simp only [ao] at hx
   obtain ⟨vs, rfl, h1, hr⟩ := hx
   simp only [Instr.field, bC, run_underlying hu, bQ, hy, asAgg, bT, part, iv hd, ha, if_true, dE, dp hi]
   refine aO h ?_
   simp only [ao]
   refine ⟨(vs.drop y.offset).take i.size, ?_, fun u hu => h1 u (List.mem_of_mem_drop (List.mem_of_mem_take hu)), (hr.drop _).take _⟩
   congr 1
   apply Array.ext'
   simp [List.extract_eq_take_drop]
 · rename_i o n l hf
   obtain ⟨fs, y, i, d, hu, hy, rfl, hi, hd, ha, rfl⟩ := key hf
   simp only [ao] at hx
   obtain ⟨vs, rfl, h1, hr⟩ := hx
   cases hl : l.drop y.offset with
   | nil => trivial
   | cons z zs =>
     have hz : l[y.offset]? = some z := by
      have := congrArg (fun l => l[0]?) hl
      simpa using this
     obtain ⟨u, lq, Ob⟩ := hr.get hz
     have e : vs.toArray[y.offset]? = some u := by simpa using lq
     simp only [Instr.field, bC, run_underlying hu, bQ, hy, asAgg, bT, part, iv hd, ha, bu, if_false, dE, e]
     exact aO h Ob
 · trivial
theorem vp (hG : ff C g) {ρ : Env} {a : Act} (hr : eE g ρ a.tmps) : ∀ l : List Operand, ax g (l.map (ρ.ev C)) (l.map a.eval)
 | [] => by simp [ax]
 | x :: l => by simp only [dN, ax]; exact ⟨_, _, rfl, ph hG hr x, vp hG hr l⟩
theorem LJ (h : aS g U w) {f : AV} {vf : Value} {args : List AV} {vs : List Value} (hf : ao g f vf) (ha : ax g args vs) :
 aA.Fits C g U (fo C.P f args) ((do let d <- Deferred.ofValue vf vs.toArray; invoke d.target d.args : Sem Next).run C.P w) := by
 unfold fo
 split
 · rename_i q first cap
   split
   · rename_i he
     simp only [ao] at hf
     obtain ⟨fs, cs, rfl, h1, h2⟩ := hf
     unfold dj at he
     split at he
     · rename_i fn hfn
       simp only [bM, Bool.not_eq_true'] at he
       have hb : fn.body.isNone = false := by cases hb : fn.body <;> simp_all
       simp only [Deferred.ofValue, invoke, callFunc, bC, bT, bQ, run_program, hfn, he.2, hb, bu, if_false, dE]
       exact ⟨fs ++ vs ++ cs, w, by simp, h, (h1.append ha).append h2⟩
     · cases he
   · trivial
 · rename_i o
   simp only [ao] at hf
   obtain ⟨x, hx, rfl⟩ := hf
   simp only [Deferred.ofValue, invoke, bC, bT, bQ]
   exact ⟨vs, x, w, w, hx, by simp, rfl, h, ha⟩
 · trivial
theorem xo (h : aS g U w) {x : AV} {v : Value} {xt t : TypeId} {ok : Bool} (hx : ao g x v) :
 aA.Fits C g U (qZ C.P x t ok) ((do let r <- Instr.typeAssert v xt t ok; pure (Next.value r) : Sem Next).run C.P w) := by
 have key : ∀ {z : AV}, vi C.P t = some z -> ∃ d i vz, C.P.underlying t = some d /\ (∀ ms, d ≠ .interface ms) /\ C.P.info? t = some i /\ i.zero = some vz /\ ao g z vz := fun {z} hz => by
  unfold vi at hz
  split at hz
  · cases hz
  · rename_i d hn hd
    unfold zeroV at hz
    cases hi : C.P.info? t with
    | none => simp [hi] at hz
    | some i =>
      cases kG : i.zero with
      | none => simp [hi, kG] at hz
      | some vz => simp [hi, kG] at hz; exact ⟨d, i, vz, hd, fun ms e => hn ms e, rfl, kG, by rw [<- hz]; exact yY vz⟩
  · cases hz
 unfold qZ
 split
 · rename_i z u y hz
   obtain ⟨d, i, vz, hd, hn, hi, kG, Ih⟩ := key hz
   simp only [ao] at hx
   obtain ⟨q, rfl, hq⟩ := hx
   have eQ : (Instr.typeAssert (.iface u q) xt t ok).run C.P w = (if u = t then .ok (if ok then .tuple #[q, .bool true] else q) w else if ok then .ok (.tuple #[vz, .bool false]) w else (Instr.typeAssert (.iface u q) xt t ok).run C.P w) := by
    by_cases hu : u = t
    · rw [if_pos hu]
      cases d <;> first
       | exact absurd rfl (hn _)
       | (cases ok <;> simp [Instr.typeAssert, run_underlying hd, hu])
    · rw [if_neg hu]
      cases ok
      · rfl
      · cases d <;> first
         | exact absurd rfl (hn _)
         | simp [Instr.typeAssert, run_underlying hd, hu, eB hi kG]
   split
   · rename_i hu
     rw [bC, eQ, if_pos hu]
     refine aO h ?_
     cases ok
     · exact hq
     · simp only [if_true, ao, ax]; exact ⟨_, rfl, _, _, rfl, hq, _, _, rfl, rfl, rfl⟩
   · rename_i hu
     split
     · rename_i ca
       rw [bC, eQ, if_neg hu, if_pos ca]
       exact aO h (by simp only [ao, ax]; exact ⟨_, rfl, _, _, rfl, Ih, _, _, rfl, rfl, rfl⟩)
     · trivial
 · rename_i z hz
   obtain ⟨d, i, vz, hd, hn, hi, kG, Ih⟩ := key hz
   simp only [ao] at hx
   subst hx
   split
   · rename_i ca
     subst ca
     have eQ : (Instr.typeAssert .nilIface xt t true).run C.P w = .ok (.tuple #[vz, .bool false]) w := by
      cases d <;> first
       | exact absurd rfl (hn _)
       | simp [Instr.typeAssert, run_underlying hd, eB hi kG]
     rw [bC, eQ]
     exact aO h (by simp only [ao, ax]; exact ⟨_, rfl, _, _, rfl, Ih, _, _, rfl, rfl, rfl⟩)
   · trivial
 · trivial
theorem yb (h : aS g U w) {t : TypeId} {mu : Bool} {l c : AV} {vl vc : Value} (hl : ao g l vl) (hc : ao g c vc) :
 aA.Fits C g U (oW C.P t mu l c) ((do let x <- Instr.makeSlice t vl vc; pure (Next.value x) : Sem Next).run C.P w) := by
 unfold oW
 split
 · rename_i e sz kl l kc c hs
   split
   · rename_i z hz
     rintro ⟨h0, rfl, h1⟩
     obtain ⟨i, zv, hu, hi, kG, rE, da, jy, hb, _⟩ := fw hs
     obtain ⟨i', Uv, gK, Af, hm⟩ := jM hz
     rw [hi] at gK; cases gK
     rw [kG] at Af; cases Af
     obtain ⟨h2, h3⟩ := dm (g := g) hm
     simp only [ao] at hl hc
     subst hl hc
     have RT : (i.bytes : Int) * l <= 281474976710656 := by
      have e1 : (i.bytes : Int) * l <= 32768 * l := Int.mul_le_mul_of_nonneg_right (by omega) h0
      omega
     have eQ := run_make (P := C.P) w t e i zv hu hi kG kl kc l l h0 (Int.le_refl _) RT (by omega)
     have uv := o5 (g := g) h2 l.toNat
     have Sm : madeCells zv.cells (l.toNat * i.size) = (Array.range (l.toNat * zv.cells.size)).map (zv.cells[· % zv.cells.size]!) := by rw [da, <- rE]; rfl
     have wU : ∀ u ∈ (madeCells zv.cells (l.toNat * i.size)).toList, u.oneCell' = true := fun u hu => by
      rw [Sm] at hu
      simp only [Array.toList_map, List.mem_map] at hu
      obtain ⟨j, _, rfl⟩ := hu
      have aK : j % zv.cells.size < zv.cells.size := Nat.mod_lt _ (by omega)
      rw [getElem!_pos zv.cells _ aK]
      exact h3 _ (by simp)
     rw [<- Sm] at uv
     have hlen : (madeCells zv.cells (l.toNat * i.size)).toList.length = l.toNat * sz := by rw [Sm]; simp [rE]
     have Cm : z.length = sz := by have := h2.length; simp at this; omega
     simp only [bC, eQ, bQ, bT]
     cases mu
     · have := lJ (C := C) (del := none) (e := e) (sz := sz) (n := l.toNat) (c := l.toNat) h (vs := (madeCells zv.cells (l.toNat * i.size)).toList) (rest := []) uv wU (by simp) (by rw [ic, Cm]) (by simpa using hlen) (cG _) (by unfold maxLen; omega)
       simpa using this
     · have := mJ (C := C) (del := none) (e := e) (sz := sz) (n := l.toNat) (c := l.toNat) h (vs := (madeCells zv.cells (l.toNat * i.size)).toList) (rest := []) uv wU (by simp) (by simpa using hlen) (cG _) (by unfold maxLen; omega)
       simpa using this
   · trivial
 · trivial
theorem DA (h : aS g U w) {t ty : TypeId} {x : AV} {v : Value} (hx : ao g x v) :
 aA.Fits C g U (tZ C.P t x U) ((do let r <- Builtin.clear_ #[t] ty #[v]; pure (Next.value r) : Sem Next).run C.P w) := by
 unfold tZ
 split
 · rename_i e sz b off n fW e' hs
   split
   · rename_i l z hb hz
     rintro ⟨rfl, h1⟩
     obtain ⟨i, zv, hu, hi, kG, rE, da, jy, _⟩ := fw hs
     obtain ⟨i', Uv, gK, Af, hm⟩ := jM hz
     rw [hi] at gK; cases gK
     rw [kG] at Af; cases Af
     obtain ⟨h2, h3⟩ := dm (g := g) hm
     simp only [ao] at hx
     obtain ⟨y, c, hy, rfl, _⟩ := hx
     have Cm : z.length = fW := by have := h2.length; simp at this; omega
     have uv := o5 (g := g) h2 n
     have SG : Builtin.zeroCells zv.cells n = (Array.range (n * zv.cells.size)).map (zv.cells[· % zv.cells.size]!) := rfl
     obtain ⟨w', eL, dw⟩ := rV (C := C) (off := off) h hb hy uv (iW h3 n (by omega)) (by rw [ic, Cm]; exact h1)
     rw [<- SG] at eL
     by_cases hn : n = 0
     · subst hn
       have e0 : U.bN b (aw l off (bw 0 z)) = U.bN b l := by simp [aw, bw]
       simp only [Builtin.clear_, bC, bT, bQ]
       simp [run_underlying hu]
       refine ⟨_, w, g, .inl rfl, Gh.Le.refl g, ?_, by simp only [ao]; exact ⟨[], rfl, by simp [ax]⟩⟩
       show aS g (U.bN b (aw l off (bw 0 z))) w
       rw [e0]; exact h.VO hb
     · have hz2 := eB (P := C.P) hi kG w
       have RU : (Builtin.clear_ #[t] ty #[.slice (some ⟨y.aB, off, none⟩) n c]).run C.P w = .ok (.tuple #[]) w' := by
        simp [Builtin.clear_, run_underlying hu, hz2, eL, hn]
       simp only [bC, RU, bQ, bT]
       exact ⟨_, w', g, .inl rfl, Gh.Le.refl g, dw, by simp only [ao]; exact ⟨[], rfl, by simp [ax]⟩⟩
   · trivial
 · trivial
theorem wJ : ∀ {ks vs : List AV}, ks.length = vs.length -> (ks.zip vs).map (·.1) = ks
 | [], [], _ => rfl
 | [], _ :: _, h => by simp at h
 | _ :: _, [], h => by simp at h
 | k :: ks, v :: vs, h => by simp only [List.zip_cons_cons, dN]; rw [wJ (by simpa using h)]
theorem wK : ∀ {ks vs : List AV}, ks.length = vs.length -> (ks.zip vs).map (·.2) = vs
 | [], [], _ => rfl
 | [], _ :: _, h => by simp at h
 | _ :: _, [], h => by simp at h
 | k :: ks, v :: vs, h => by simp only [List.zip_cons_cons, dN]; rw [wK (by simpa using h)]
theorem D0 (h : aS g U w) {t : TypeId} {m : AV} {v : Value} (hm : ao g m v) : aA.Fits C g U (CX C.P t m) ((do let x <- Instr.range t v; pure (Next.value x) : Sem Next).run C.P w) := by
 unfold CX
 split
 · rename_i p ks vs ht
   obtain ⟨fk, e⟩ := p
   obtain ⟨kt, hu, _⟩ := uD ht
   simp only [ao] at hm
   obtain ⟨r, es, clock, l, rfl, hr, hp, hs, h1, h2⟩ := hm
   obtain ⟨q1, q2⟩ := h.bo r es clock hr
   have hlen : ks.length = vs.length := by
    have a := h1.length
    have b := h2.length
    simp at a b; omega
   have oA : (getObj r).run C.P w = .ok (.map es clock) w := by simp [getObj, Sem.run, q1]
   obtain ⟨b, g', f1, f2, f3, f4⟩ := h.pF (.mapIter (some r) clock #[] clock) 0 0 (.iter (ks.zip vs) none) fun g' hle hi H3 =>
    ⟨r, es, clock, #[], heap_alloc_new w _, hle.bo _ _ hr, ⟨l, by
      have : (es.toList.filter fun e => !(#[] : Array Nat).contains e.born) = es.toList := by simp
      rw [this]; exact hp, by rw [wJ hlen]; exact h1.mono hle, by rw [wK hlen]; exact h2.mono hle⟩, trivial⟩
   simp only [Instr.range, bC, run_underlying hu, bQ, oA, bT, run_newObj]
   exact ⟨_, _, g', b, rfl, f1, f2, f4, by simp only [NV.at, ao]; exact ⟨_, f3, rfl⟩⟩
 · trivial
theorem Az : ∀ {l : List (AV × AV)} {i : Nat} {x : AV × AV}, l[i]? = some x -> (x, l.eraseIdx i) ∈ oZ l
 | [], i, x, h => by simp at h
 | y :: l, 0, x, h => by simp at h; subst h; simp [oZ]
 | y :: l, i + 1, x, h => by
   simp only [List.getElem?_cons_succ] at h
   simp only [oZ, List.eraseIdx_cons_succ, dA, List.mem_map]
   exact .inr ⟨_, Az h, rfl⟩
theorem ax.eraseIdx : ∀ {l : List AV} {vs : List Value} (i : Nat), ax g l vs -> ax g (l.eraseIdx i) (vs.eraseIdx i)
 | [], _, _, h => by simp only [ax] at h; subst h; simp [ax]
 | y :: ys, _, 0, h => by
   simp only [ax] at h
   obtain ⟨v, vs, rfl, h1, h2⟩ := h
   simpa using h2
 | y :: ys, _, i + 1, h => by
   simp only [ax] at h
   obtain ⟨v, vs, rfl, h1, h2⟩ := h
   simp only [List.eraseIdx_cons_succ, ax]
   exact ⟨v, _, rfl, h1, ax.eraseIdx i h2⟩
theorem jR {α β : Type} (f : α -> β) : ∀ (l : List α) (i : Nat), (l.eraseIdx i).map f = (l.map f).eraseIdx i
 | [], i => by simp
 | x :: l, 0 => by simp
 | x :: l, i + 1 => by simp [jR f l i]
theorem AT {α : Type} {l m : List α} (h : l.Perm m) {i j : Nat} {e : α} (hi : l[i]? = some e) (hj : m[j]? = some e) : (l.eraseIdx i).Perm (m.eraseIdx j) := by
 obtain ⟨h1, h2⟩ := dx.1 hi
 obtain ⟨h3, h4⟩ := dx.1 hj
 have el : l = l.take i ++ e :: l.drop (i + 1) := by
  conv => lhs; rw [<- List.take_append_drop i l, gp h1, h2]
 have em : m = m.take j ++ e :: m.drop (j + 1) := by
  conv => lhs; rw [<- List.take_append_drop j m, gp h3, h4]
 have hp : (l.take i ++ e :: l.drop (i + 1)).Perm (m.take j ++ e :: m.drop (j + 1)) := by rw [<- el, <- em]; exact h
 have h5 := (List.perm_middle.symm.trans hp).trans List.perm_middle
 rw [List.eraseIdx_eq_take_drop_succ, List.eraseIdx_eq_take_drop_succ]
 exact List.Perm.cons_inv h5
theorem DG {es : List MapEntry} (hn : (es.map (·.born)).Nodup) {seen : Array Nat} {e : MapEntry} {j : Nat} (hj : (es.filter fun x => !seen.contains x.born)[j]? = some e) :
 (es.filter fun x => !(seen.push e.born).contains x.born) = (es.filter fun x => !seen.contains x.born).eraseIdx j := by
 have e1 : (es.filter fun x => !(seen.push e.born).contains x.born) = (es.filter fun x => !seen.contains x.born).filter fun x => x.born != e.born := by
  rw [List.filter_filter]
  apply List.filter_congr
  intro x _
  simp only [Array.contains_push, Bool.not_or]
  rw [Bool.and_comm]
  congr 1
 rw [e1]
 have H5 : ((es.filter fun x => !seen.contains x.born).map (·.born)).Nodup := List.Nodup.sublist (List.Sublist.map _ List.filter_sublist) hn
 generalize (es.filter fun x => !seen.contains x.born) = l at hj H5
 clear e1 hn es
 induction l generalizing j with
 | nil => simp at hj
 | cons y l ih =>
   simp only [dN, List.nodup_cons] at H5
   cases j with
   | zero =>
     simp at hj; subst hj
     simp only [List.filter_cons, bne_self_eq_false, bu, if_false, List.eraseIdx_zero, List.tail_cons]
     rw [List.filter_eq_self]
     intro x hx
     simp only [bne_iff_ne, ne_eq]
     intro he
     exact H5.1 (he ▸ List.mem_map_of_mem hx)
   | succ j =>
     simp only [List.getElem?_cons_succ] at hj
     have bW : y.born ≠ e.born := fun he => H5.1 (he ▸ List.mem_map_of_mem (fS hj))
     simp only [List.filter_cons, bne_iff_ne, ne_eq, bW, not_false_eq_true, if_true, List.eraseIdx_cons_succ]
     rw [ih hj H5.2]
theorem Gw (h : aS g U w) {i : AV} {v : Value} {ty : TypeId} (hi : ao g i v) : aA.Fits C g U (oY i U) ((do let x <- Instr.next v false ty; pure (Next.value x) : Sem Next).run C.P w) := by
 unfold oY
 split
 · rename_i o
   simp only [ao] at hi
   obtain ⟨p, hp, rfl⟩ := hi
   split
   · rename_i cur hit
     obtain ⟨p', k1, k2, m, es, clock, seen, k3, k4, ⟨l, k5, k6, k7⟩, k8⟩ := h.live o _ (St.sF.1 hit)
     rw [hp] at k1; cases k1
     obtain ⟨q1, q2⟩ := h.bo m es clock k4
     simp only [ke, ax, List.map_eq_nil_iff] at k6
     subst k6
     have ze := k5.symm.eq_nil
     have HZ : (getObj p.aB).run C.P w = .ok (.mapIter (some m) clock seen clock) w := by simp [getObj, Sem.run, k3]
     have H0 : (getObj m).run C.P w = .ok (.map es clock) w := by simp [getObj, Sem.run, q1]
     have FU : (!seen.isEmpty && !es.isEmpty && es.all (fun e => decide (e.born >= clock))) = false := by
      cases he : es.isEmpty
      · have : es.all (fun e => decide (e.born >= clock)) = false := by
         rw [Array.all_eq_false]
         have h0 : 0 < es.size := by
          rcases Nat.eq_zero_or_pos es.size with h0 | h0
          · simp [Array.isEmpty, h0] at he
          · exact h0
         refine ⟨0, h0, ?_⟩
         have := q2.2 es[0] (by simp)
         simp; omega
        simp [this]
      · simp
     have Vx : (es.filter fun e => !seen.contains e.born) = #[] := by
      apply Array.ext'
      simpa using ze
     simp only [Instr.next, bC, HZ, bQ, H0, FU, dE, bu, if_false, bT, Vx]
     have e2 : (#[] : Array MapEntry).filter (fun e => decide (e.born < clock)) = #[] := by simp
     have e3 : (#[] : Array MapEntry).filter (fun e => decide (e.born >= clock)) = #[] := by simp
     simp [choose, Sem.run, Question.forced, Result.andThen]
     exact aO h (by simp only [ao, ax]; exact ⟨[.bool false], rfl, _, _, rfl, rfl, rfl⟩)
   · rename_i x xs cur hit
     obtain ⟨p', k1, k2, m, es, clock, seen, k3, k4, ⟨l, k5, k6, k7⟩, k8⟩ := h.live o _ (St.sF.1 hit)
     rw [hp] at k1; cases k1
     obtain ⟨q1, q2⟩ := h.bo m es clock k4
     have HZ : (getObj p.aB).run C.P w = .ok (.mapIter (some m) clock seen clock) w := by simp [getObj, Sem.run, k3]
     have FU : (!seen.isEmpty && !es.isEmpty && es.all (fun e => decide (e.born >= clock))) = false := by
      cases he : es.isEmpty
      · have : es.all (fun e => decide (e.born >= clock)) = false := by
         rw [Array.all_eq_false]
         have h0 : 0 < es.size := by
          rcases Nat.eq_zero_or_pos es.size with h0 | h0
          · simp [Array.isEmpty, h0] at he
          · exact h0
         refine ⟨0, h0, ?_⟩
         have := q2.2 es[0] (by simp)
         simp; omega
        simp [this]
      · simp
     generalize hL : (es.filter fun e => !seen.contains e.born) = L
     have El : (es.toList.filter fun e => !seen.contains e.born) = L.toList := by rw [<- hL]; simp
     rw [El] at k5
     have jx : ∀ e ∈ L.toList, e ∈ es.toList := fun e he => by rw [<- El] at he; exact (List.mem_filter.1 he).1
     have hlen : l.length = xs.length + 1 := by have := k6.length; simpa using this
     have HR : L.size = xs.length + 1 := by rw [<- hlen, k5.length_eq]; simp
     have hold : L.filter (fun e => decide (e.born < clock)) = L := by
      apply Array.ext'
      rw [Array.toList_filter, List.filter_eq_self]
      intro e he
      have := q2.2 e (jx e he)
      simpa using this
     have lX : L.filter (fun e => decide (e.born >= clock)) = #[] := by
      apply Array.ext'
      rw [Array.toList_filter]
      apply List.filter_eq_nil_iff.2
      intro e he
      have := q2.2 e (jx e he)
      simp; omega
     have Z2 : L.isEmpty = false := by simp [Array.isEmpty, HR]
     have key : ∀ (w1 : World) (c : Nat), w1.heap = w.heap -> w1.os = w.os -> w1.tape = w.tape -> w1.output = w.output -> c < L.size ->
      ∀ e, L[c]? = some e -> ∃ u w' g' v x', (setObj p.aB (.mapIter (some m) clock (seen.push e.born) clock)).run C.P w1 = .ok () w' /\ u = Value.tuple #[.bool true, e.key, e.val] /\
       (v, x') ∈ (oZ (x :: xs)).map (fun p => (AV.aN [.bool true, p.1.1, p.1.2], Live.iter p.2 (some p.1))) /\ Gh.Le g g' /\ aS g' (U.set o x') w' /\ ao g' v u := fun w1 c e1 e2 e3 e4 hc e he => by
      have iL : L.toList[c]? = some e := by rw [gX]; exact he
      obtain ⟨a, ha⟩ := List.getElem?_of_mem (k5.mem_iff.2 (fS iL))
      have BS : a < (x :: xs).length := by
       have := (dx.1 ha).1
       rw [hlen] at this; simpa using this
      have N9 : (x :: xs)[a]? = some ((x :: xs)[a]) := kL BS
      generalize (x :: xs)[a] = kv at N9
      obtain ⟨vk, oJ, pq⟩ := k6.get (i := a) (x := kv.1) (by rw [jE, N9]; rfl)
      obtain ⟨vv, Sz, eK⟩ := k7.get (i := a) (x := kv.2) (by rw [jE, N9]; rfl)
      rw [jE, ha] at oJ Sz
      simp at oJ Sz
      subst oJ Sz
      have zf : (setObj p.aB (.mapIter (some m) clock (seen.push e.born) clock)).run C.P w1 = .ok () { w1 with heap := w1.heap.setIfInBounds p.aB (.mapIter (some m) clock (seen.push e.born) clock) } := by
       simp [setObj, Sem.run, e1, k3]
      have aK := (gV.1 k3).1
      refine ⟨_, _, g, _, _, zf, rfl, List.mem_map.2 ⟨_, Az N9, rfl⟩, Gh.Le.refl g, ?_, ?_⟩
      · refine h.rewrite (St.sF.1 hit) hp ⟨e2, e3, e4, by simp [e1]⟩ (fun k hk _ => by simp only [e1]; exact Array.getElem?_setIfInBounds_ne (Ne.symm hk)) (fun o => ?_) ?_ ?_
        · cases ei : g.bI p.aB o with
          | none => rfl
          | some u => have := (h.bI _ _ _ ei).1; simp [World.cell?, k3] at this
        · cases ei : g.bo p.aB with
          | none => rfl
          | some u => have := (h.bo _ _ _ ei).1; rw [k3] at this; cases this
        · refine ⟨m, es, clock, seen.push e.born, by simp [e1, aK], k4, ⟨l.eraseIdx a, ?_, ?_, ?_⟩, e, ?_, by simp, pq, eK⟩
          · have vX : (es.toList.filter fun e => !seen.contains e.born)[c]? = some e := by rw [El]; exact iL
            rw [DG q2.1 vX, El]
            exact AT k5 ha iL
          · rw [jR, jR]; exact k6.eraseIdx a
          · rw [jR, jR]; exact k7.eraseIdx a
          · exact jx e (fS iL)
      · simp only [ao, ax]
        exact ⟨_, rfl, _, _, rfl, rfl, _, _, rfl, pq, _, _, rfl, eK, rfl⟩
     have B9 : ∀ (n : Nat) (w1 : World), (choose (.mapNext L.size)).run C.P w = .ok n w1 -> w1.heap = w.heap -> w1.os = w.os -> w1.tape = w.tape -> w1.output = w.output -> n < L.size ->
      aA.Fits C g U (.il o ((oZ (x :: xs)).map fun p => (.aN [.bool true, p.1.1, p.1.2], .iter p.2 (some p.1)))) ((do let x <- Instr.next (.pointer (some ⟨p.aB, 0, none⟩)) false ty; pure (Next.value x) : Sem Next).run C.P w) := fun n w1 ZT e1 e2 e3 e4 hn => by
      have H0 : (getObj m).run C.P w = .ok (.map es clock) w := by simp [getObj, Sem.run, q1]
      have RN : L[n]? = some L[n] := by simp [hn]
      generalize L[n] = e at RN
      obtain ⟨u, w', g', v, x', r1, r2, r3, r4, r5, r6⟩ := key w1 n e1 e2 e3 e4 hn e RN
      have Vp : ((#[] : Array (Option MapEntry)) ++ (L ++ #[]).map some).size = L.size := by simp
      have ZU : ((#[] : Array (Option MapEntry)) ++ (L ++ #[]).map some)[n]? = some (some e) := by simp [RN]
      simp only [Instr.next, bC, HZ, bQ, H0, FU, dE, bu, if_false, bT, hL, hold, lX, Z2, Vp, ZT, ZU, r1]
      exact ⟨_, w', g', v, x', rfl, r3, r4, r5, by rw [<- r2]; exact r6⟩
     by_cases hf : L.size <= 1
     · refine B9 0 w ?_ rfl rfl rfl rfl (by omega)
       simp [choose, Sem.run, Question.forced, hf]
     · refine B9 (w.tape w.drawn (.mapNext L.size) % L.size) w.drew ?_ rfl rfl rfl rfl (Nat.mod_lt _ (by omega))
       have Z6 : Question.forced (.mapNext L.size) = false := by simp only [Question.forced, decide_eq_false_iff_not]; exact hf
       simp only [choose, Sem.run, Z6, bu, if_false, Question.cut]
       rfl
   · trivial
 · trivial
theorem DE (h : aS g U w) {i : AV} {v : Value} (hi : ao g i v) : aA.Fits C g U (lH i U) ((do let x <- Instr.entry v; pure (Next.value x) : Sem Next).run C.P w) := by
 unfold lH
 split
 · rename_i o
   simp only [ao] at hi
   obtain ⟨p, hp, rfl⟩ := hi
   split
   · rename_i rest kv hit
     obtain ⟨p', k1, k2, m, es, clock, seen, k3, k4, _, e, k5, k6, k7, k8⟩ := h.live o _ (St.sF.1 hit)
     rw [hp] at k1; cases k1
     obtain ⟨q1, q2⟩ := h.bo m es clock k4
     have HZ : (getObj p.aB).run C.P w = .ok (.mapIter (some m) clock seen clock) w := by simp [getObj, Sem.run, k3]
     have H0 : (getObj m).run C.P w = .ok (.map es clock) w := by simp [getObj, Sem.run, q1]
     have FY : es.find? (fun x => x.born == e.born) = some e := by
      rw [<- Array.find?_toList]
      have hn := q2.1
      generalize es.toList = l at k5 hn
      induction l with
      | nil => simp at k5
      | cons y l ih =>
        simp only [dN, List.nodup_cons] at hn
        rw [List.find?_cons]
        rcases dA.1 k5 with rfl | hm
        · simp
        · have : (y.born == e.born) = false := by
           simp only [beq_eq_false_iff_ne, ne_eq]
           intro he
           exact hn.1 (he ▸ List.mem_map_of_mem hm)
          rw [this]
          exact ih hm hn.2
     simp only [Instr.entry, bC, HZ, bQ, k6, H0, bne_self_eq_false, bu, if_false, dE, bT, FY]
     exact aO h (by simp only [ao, ax]; exact ⟨_, rfl, _, _, rfl, k7, _, _, rfl, k8, rfl⟩)
   · trivial
 · trivial
theorem vQ (hG : ff C g) {ρ : Env} {a : Act} (hr : eE g ρ a.tmps) (parts : Array (Nat × Operand)) :
 (parts.map fun (i, x) => (i, a.eval x)).size = (jb C ρ parts).length /\ ∀ (i : Nat) (p : Nat × AV) (q : Nat × Value), (jb C ρ parts)[i]? = some p -> (parts.map fun (i, x) => (i, a.eval x))[i]? = some q -> p.1 = q.1 /\ ao g p.2 q.2 := by
 refine ⟨by simp [jb], fun i p q h1 h2 => ?_⟩
 simp only [jb, jE, gX, lD] at h1
 obtain ⟨y, hy, rfl⟩ := h1
 simp only [Array.getElem?_map, hy, Option.map_some, fL] at h2
 subst h2
 exact ⟨rfl, ph hG hr _⟩
theorem EY (hG : ff C g) {ρ : Env} {a : Act} (hr : eE g ρ a.tmps) (x : Option Operand) : match x.map (ρ.ev C), x.map a.eval with | none, none => True | some x, some u => ao g x u | _, _ => False := by
 cases x with
 | none => trivial
 | some x => exact ph hG hr x
theorem yn {P : Program} {w : World} {t u ty e : TypeId} {i : TypeInfo} {z : Value} {k k' : IntKind} (ht : P.underlying t = some (.slice e)) (hu : P.underlying u = some (.int k')) (hi : P.info? e = some i) (hz : i.zero = some z) (xM : i.bytes <= 32768) (hp : 0 < i.size)
 {n : Nat} (h0 : 0 < n) (hn : n <= 65536) :
 (Builtin.append_ #[t, u] ty #[.slice none 0 0, .int k (n : Int)]).run P w =
   .ok (.slice (some ⟨w.heap.size, 0, none⟩) n (grownCap w n 0 e))
    (w.drew.alloc (.cells (Builtin.zeroCells z.cells n ++ Builtin.zeroCells z.cells (grownCap w n 0 e - n)) e)) := by
 have VG : IntKind.i64.wrap (n : Int) = n := tm ⟨by omega, by omega⟩
 have LQ : ¬ (9223372036854775807 < (n : Int)) := by omega
 have jO : n * i.bytes <= 140737488355328 := Nat.le_trans (Nat.mul_le_mul hn xM) (by omega)
 have HO := growslice_fits (old := 0) (need := n) (bytes := i.bytes) (by omega) jO
 have LP : ¬ (281474976710656 < Builtin.nextslicecap n 0 * i.bytes) := by omega
 have gS : ¬ ((281474976710656 : Int) < (n : Int) * (i.bytes : Int)) := by
  have : (n : Int) * (i.bytes : Int) = ((n * i.bytes : Nat) : Int) := by simp
  omega
 have hns : ¬ (n = 0 \/ i.size = 0) := by omega
 have Ye : ¬ ((n : Int) < 0) := by omega
 simp [Builtin.append_, run_underlying ht, run_underlying hu, sizeOf, typeInfo, zeroValue, hi, hz, VG, LQ, LP, gS, hns, Ye, Question.forced, newRow, grownCap, asInt, asIntOf, Builtin.firstCells]
 have e1 : n ≠ 0 := by omega
 have e2 : n * i.size ≠ 0 := Nat.mul_ne_zero e1 (by omega)
 rw [if_neg e1, if_neg e2]
theorem FO {P : Program} {t u : TypeId} {q : TypeId × Nat × List AV} (h : xH P t u = some q) : ∃ k, P.underlying u = some (.int k) /\ dH P t = some (q.1, q.2.1) /\ lW P q.1 = some q.2.2 := by
 unfold xH at h
 split at h
 · rename_i k hu
   split at h
   · rename_i e sz hs
     split at h
     · rename_i z hz
       cases h
       exact ⟨k, hu, hs, hz⟩
     · cases h
   · cases h
 · cases h
theorem FN (h : aS g U w) {t u ty : TypeId} {mu : Bool} {q : TypeId × Nat × List AV} (hq : xH C.P t u = some q) {s y : AV} {v v2 : Value} (hs : ao g s v) (hy : ao g y v2) :
 aA.Fits C g U (vr q mu s y) ((do let r <- Builtin.append_ #[t, u] ty #[v, v2]; pure (Next.value r) : Sem Next).run C.P w) := by
 obtain ⟨k', hu, py, hz⟩ := FO hq
 unfold vr
 split
 · rename_i k n
   rintro ⟨h0, h1⟩
   obtain ⟨i, zv, ht, hi, kG, rE, da, jy, xM, W8⟩ := fw py
   obtain ⟨i', Uv, gK, Af, hm⟩ := jM hz
   rw [hi] at gK; cases gK
   rw [kG] at Af; cases Af
   obtain ⟨h2, h3⟩ := dm (g := g) hm
   simp only [ao] at hs hy
   subst hs hy
   obtain ⟨m, rfl⟩ : ∃ m : Nat, n = m := ⟨n.toNat, by omega⟩
   simp only [eG]
   have hY := grownCap_ge w m 0 q.1
   have hle := grownCap_le_maxLen w m 0 q.1 (by unfold maxLen; omega)
   rw [bC, yn (k := k) ht hu hi kG xM (by omega) (by omega) (by omega)]
   have dw := h.grow (gQ w)
   have uv := o5 (g := g) h2 m
   have Cm : q.2.2.length = i.size := by have := h2.length; simp at this; omega
   have wU := iW h3 m (by omega)
   have N0 := iW h3 (grownCap w m 0 q.1 - m) (by omega)
   have hlen : (Builtin.zeroCells zv.cells m).toList.length + (Builtin.zeroCells zv.cells (grownCap w m 0 q.1 - m)).toList.length = grownCap w m 0 q.1 * q.2.1 := by
    rw [oE, oE, size_zeroCells, size_zeroCells, rE, <- Nat.add_mul, <- da]
    congr 1; omega
   have ew : Builtin.zeroCells zv.cells m ++ Builtin.zeroCells zv.cells (grownCap w m 0 q.1 - m) = ((Builtin.zeroCells zv.cells m).toList ++ (Builtin.zeroCells zv.cells (grownCap w m 0 q.1 - m)).toList).toArray := by simp
   rw [ew]
   simp only [bQ, bT]
   cases mu
   · exact lJ dw uv wU N0 (by rw [ic, Cm, da]) hlen hY hle
   · exact mJ dw uv wU N0 hlen hY hle
 · trivial
theorem Hs (h : aS g U w) {t ty : TypeId} {x : AV} {v : Value} (hx : ao g x v) :
 aA.Fits C g U (tX (dH C.P t) x) ((do let r <- Builtin.cap_ #[t] ty #[v]; pure (Next.value r) : Sem Next).run C.P w) := by
 unfold tX
 split
 · rename_i q hq
   obtain ⟨e, sz⟩ := q
   obtain ⟨i, z, ht, _⟩ := fw hq
   simp only [ao] at hx
   subst hx
   have : (Builtin.cap_ #[t] ty #[.slice none 0 0]).run C.P w = .ok (.int .i64 0) w := by simp [Builtin.cap_, run_underlying ht]; rfl
   rw [bC, this]
   exact aO h (by simp only [ao])
 · trivial
theorem Bt (h : aS g U w) {t u ty : TypeId} {mu : Bool} {s y : AV} {v v2 : Value} (hs : ao g s v) (hy : ao g y v2) :
 aA.Fits C g U (vg C.P t u mu s y U) ((do let r <- Builtin.append_ #[t, u] ty #[v, v2]; pure (Next.value r) : Sem Next).run C.P w) := by
 unfold vg
 split
 · rename_i q hq
   exact FN h hq hs hy
 · exact Bs h hs hy
theorem Fs (h : aS g U w) (hG : ff C g) {ρ : Env} {a : Act} (hr : eE g ρ a.tmps) (mu : Bool) (c : Call) (ty : TypeId) :
 aA.Fits C g U (vj C mu c ρ U) ((do let d <- resolve a.eval c ty; invoke d.target d.args : Sem Next).run C.P w) := by
 obtain ⟨callee, ⟨args⟩, ⟨argTypes⟩⟩ := c
 have e := fun x => ph hG hr x
 have fin : aA.Fits C g U (match callee, argTypes, args with
  | .value f, _, args => fo C.P (ρ.ev C f) (args.map (ρ.ev C))
  | .builtin .len, [t], [x] => CC C.P t (ρ.ev C x) U
  | .builtin .append, [t, u], [s, y] => vg C.P t u mu (ρ.ev C s) (ρ.ev C y) U
  | .builtin .cap, [t], [x] => tX (dH C.P t) (ρ.ev C x)
  | .builtin .min, _, [x, y] => uE (ρ.ev C x) (ρ.ev C y)
  | .builtin .max, _, [x, y] => wZ (ρ.ev C x) (ρ.ev C y)
  | .builtin .clear, [t], [x] => tZ C.P t (ρ.ev C x) U
  | _, _, _ => .bad) ((do let d <- resolve a.eval ⟨callee, ⟨args⟩, ⟨argTypes⟩⟩ ty; invoke d.target d.args : Sem Next).run C.P w) := by
  split
  · rename_i f
    have := LJ (C := C) h (e f) (vp hG hr args)
    have e2 : (args.map a.eval).toArray = (⟨args⟩ : Array Operand).map a.eval := by simp
    rw [e2] at this
    exact this
  · rename_i t x
    have := Iv (C := C) (ty := ty) h (t := t) (e x)
    simpa only [resolve, invoke, builtin, bC, bT, bQ, List.map_toArray, dN, ke] using this
  · rename_i t u s y
    have := Bt (C := C) (ty := ty) (mu := mu) h (t := t) (u := u) (e s) (e y)
    simpa only [resolve, invoke, builtin, bC, bT, bQ, List.map_toArray, dN, ke] using this
  · rename_i t x
    have := Hs (C := C) (ty := ty) h (t := t) (e x)
    simpa only [resolve, invoke, builtin, bC, bT, bQ, List.map_toArray, dN, ke] using this
  · rename_i x y
    have := ID (C := C) (ty := ty) (ts := ⟨argTypes⟩) h (e x) (e y)
    simpa only [resolve, invoke, builtin, bC, bT, bQ, List.map_toArray, dN, ke] using this
  · rename_i x y
    have := IC (C := C) (ty := ty) (ts := ⟨argTypes⟩) h (e x) (e y)
    simpa only [resolve, invoke, builtin, bC, bT, bQ, List.map_toArray, dN, ke] using this
  · rename_i t x
    have := DA (C := C) (ty := ty) h (t := t) (e x)
    simpa only [resolve, invoke, builtin, bC, bT, bQ, List.map_toArray, dN, ke] using this
  · trivial
 exact fin
theorem Mm (h : aS g U w) (hG : ff C g) {ρ : Env} {a : Act} (hr : eE g ρ a.tmps) (mu : Bool) (o : Oper) : aA.Fits C g U (gh C mu o.op ρ U) ((execOp a.eval o).run C.P w) := by
 have e := fun x => ph hG hr x
 obtain ⟨dst, op, type, pos, after, guard⟩ := o
 unfold gh
 dsimp only
 split
 · exact aO h (e _)
 · exact aO h (e _)
 · rename_i c x y
   unfold bF
   split
   · rename_i t ht
     have hc := e c
     rw [ht] at hc
     simp only [ao] at hc
     simp only [execOp, hc, asBool, bC, bT, bQ]
     refine aO h ?_
     cases t
     · exact e _
     · exact e _
   · trivial
 · exact Ds h
 · exact Hr h (e _)
 · obtain ⟨h1, h2⟩ := vQ hG hr ‹_›
   exact Dx h h1 h2
 · obtain ⟨h1, h2⟩ := vQ hG hr ‹_›
   exact wP h h1 h2
 · exact qo h (e _) (e _) (e _)
 · exact qo h (e _) (e _) (e _)
 · exact Gm h (e _)
 · exact D5 h (e _) (e _)
 · exact zm h rfl (e _)
 · exact Hp h _ _ (e _) (e _)
 · exact M9 h (e _)
 · exact Fv h (e _)
 · exact ya h (e _)
 · rename_i fn first cap
   simp only [execOp, Instr.makeFunc, bC, bT, bQ]
   refine aO h ?_
   simp only [ao]
   exact ⟨first.toList.map a.eval, cap.toList.map a.eval, by congr 1 <;> (apply Array.ext'; simp), vp hG hr _, vp hG hr _⟩
 · simp only [execOp, Instr.makeMap, Option.map_none, bC, bT, bQ, run_newObj]
   exact Gv h
 · exact D4 h (e _) (EY hG hr _) (EY hG hr _)
 · exact xE h (e _)
 · exact y7 h (e _)
 · exact x5 h (e _) (e _)
 · exact DM h (e _) (e _)
 · exact CE h (e _) (e _)
 · exact AO h (e _) _
 · exact DX h (e _)
 · exact D0 h (e _)
 · exact xo h (e _)
 · exact yb h (e _) (e _)
 · exact Gw h (e _)
 · exact DE h (e _)
 · exact Fs h hG hr mu _ _
 · trivial
end
end Go.Rip
