/- Lemmas for the proof: no conditions. -/
import Derived.Test.YtnfpmiiopiinbaaGreatDoorRipZz
import Derived.RangeFuncIn
import Derived.Laws.AppendOwn
import Derived.Below
import Derived.Laws.StructEq
import Derived.Lib.ConvBytes
import Derived.RangeFuncLeaves
import Derived.RangeFuncCalls
import Derived.Laws.MakeOwn
set_option linter.unusedVariables false
set_option linter.unusedSimpArgs false
set_option linter.loopingSimpArgs false
namespace Go.Rip
open Go.RowKit
structure Tok where
 n : Nat
 e : TypeId
 size : Nat
 deriving DecidableEq
inductive kh where
 | full
 | own (τ : Nat)
 | gC
inductive AV where
 | bool (b : Bool)
 | int (k : IntKind) (n : Int)
 | str (s : List UInt8)
 | bj
 | ak
 | kx
 | jt
 | dq
 | box (b off : Nat)
 | cP (l : List AV)
 | vec (n : Nat) (cap : kh) (l : List AV)
 | ms (b off n iC : Nat) (e : TypeId)
 | mp (m : Nat)
 | fS (ks vs : List AV)
 | func (fn : Fn) (first captured : List AV)
 | iface (t : TypeId) (v : AV)
 | agg (l : List AV)
 | aU (l : List AV)
 | rO (o : Nat)
 | it (o : Nat)
 | any
instance : Inhabited AV := ⟨.any⟩
structure Place where
 aO : Nat
 e : TypeId
 size : Nat
structure gN where
 ρ : Nat -> AV
 nt : Nat
 params : Array Tmp
 assign : Code
 body : Code
 state : LoopState
 fH : Option Code
 tag : Nat
inductive Live where
 | box (l : List AV)
 | tok (t : Tok)
 | mp (ks vs : List AV)
 | loop (L : gN)
 | iter (rest : List (AV × AV)) (cur : Option (AV × AV))
 | zU (t : TypeId) (l : List AV)
structure Gh where
 base : Nat
 w0 : World
 place : Nat -> Option Place
 cB : Nat -> Nat -> Option Value
 bZ : Nat -> Option (Array MapEntry × Nat)
 res : Nat -> Bool
def Gh.box (g : Gh) (b : Nat) : Option Place := g.place b
def Gh.tok (g : Gh) (b : Nat) : Option (Nat × Nat) := (g.place b).map fun p => (p.aO, p.size)
def Gh.mp (g : Gh) (b : Nat) : Option Nat := (g.place b).map (·.aO)
theorem Gh.kf {g : Gh} {b : Nat} {x : Nat × Nat} : g.tok b = some x ↔ ∃ p, g.place b = some p /\ p.aO = x.1 /\ p.size = x.2 := by
 unfold Gh.tok
 cases g.place b with
 | none => simp
 | some p => simp [Prod.ext_iff]
theorem Gh.oV {g : Gh} {b : Nat} {x : Nat} : g.mp b = some x ↔ ∃ p, g.place b = some p /\ p.aO = x := by
 unfold Gh.mp
 cases g.place b with
 | none => simp
 | some p => simp
def kM (g : Gh) (aO off : Nat) (vs : List Value) : Prop := ∀ i u, vs[i]? = some u -> g.cB aO (off + i) = some u
def pR (g : Gh) (cap : kh) (aO off n c : Nat) : Prop :=
 match cap with
 | .full => c = n
 | .own τ => off = 0 /\ g.tok τ = some (aO, c)
 | .gC => True
def iZ : AV -> AV -> Bool
 | .int k a, .int k' b => decide (k = k') && decide (a < b)
 | .str a, .str b => decide (a < b)
 | _, _ => false
def oM (ks : List AV) : Prop := ks.Pairwise (fun a b => iZ a b = true)
def kg (es : Array MapEntry) (clock : Nat) : Prop := (es.toList.map (·.born)).Nodup /\ ∀ e ∈ es.toList, e.born < clock
mutual
def aB (g : Gh) : AV -> Value -> Prop
 | .bool b, v => v = .bool b
 | .int k n, v => v = .int k n
 | .str s, v => v = .string ⟨s.toArray⟩
 | .bj, v => v = .pointer none
 | .ak, v => v = .slice none 0 0
 | .kx, v => v = .map none
 | .jt, v => v = .nilFunc
 | .dq, v => v = .nilIface
 | .box b off, v => ∃ x, g.box b = some x /\ v = .pointer (some ⟨x.aO, off, none⟩)
 | .cP l, v => ∃ aO off vs, v = .pointer (some ⟨aO, off, none⟩) /\ kM g aO off vs /\ aN g l vs
 | .vec n cap l, v => ∃ aO off c vs, v = .slice (some ⟨aO, off, none⟩) n c /\ n <= c /\ c <= maxLen /\ pR g cap aO off n c /\ kM g aO off vs /\ aN g l vs
 | .ms b off n iC e, v => ∃ x c, g.box b = some x /\ v = .slice (some ⟨x.aO, off, none⟩) n c /\ n <= c /\ c <= maxLen /\ off + c * iC = x.size /\ x.e = e
 | .mp m, v => ∃ r, g.mp m = some r /\ v = .map (some r)
 | .fS ks vs, v => ∃ r es clock, ∃ l : List MapEntry, v = .map (some r) /\ g.bZ r = some (es, clock) /\ l.Perm es.toList /\ oM ks /\ aN g ks (l.map (·.key)) /\ aN g vs (l.map (·.val))
 | .func fn first captured, v => ∃ fs cs, v = .func fn (List.toArray fs) (List.toArray cs) /\ aN g first fs /\ aN g captured cs
 | .iface t x, v => ∃ u, v = .iface t u /\ aB g x u
 | .agg l, v => ∃ vs, v = .agg (List.toArray vs) /\ (∀ u ∈ vs, u.oneCell' = true) /\ aN g l vs
 | .aU l, v => ∃ vs, v = .tuple (List.toArray vs) /\ aN g l vs
 | .rO o, v => ∃ x, g.place o = some x /\ v = .func (.yield x.aO) #[] #[]
 | .it o, v => ∃ x, g.place o = some x /\ v = .pointer (some ⟨x.aO, 0, none⟩)
 | .any, _ => True
def aN (g : Gh) : List AV -> List Value -> Prop
 | [], vs => vs = []
 | x :: xs, vs => ∃ u us, vs = u :: us /\ aB g x u /\ aN g xs us
end
structure Gh.Le (g g' : Gh) : Prop where
 base : g'.base = g.base
 w0 : g'.w0 = g.w0
 place : ∀ b x, g.place b = some x -> g'.place b = some x
 cB : ∀ b o x, g.cB b o = some x -> g'.cB b o = some x
 bZ : ∀ b x, g.bZ b = some x -> g'.bZ b = some x
 res : ∀ b, g.res b = true -> g'.res b = true
 xX : ∀ b o, b < g.base -> g'.cB b o = g.cB b o
 u7 : ∀ b, b < g.base -> g'.bZ b = g.bZ b
theorem Gh.Le.refl (g : Gh) : Gh.Le g g := ⟨rfl, rfl, fun _ _ h => h, fun _ _ _ h => h, fun _ _ h => h, fun _ h => h, fun _ _ _ => rfl, fun _ _ => rfl⟩
theorem Gh.Le.trans {a b c : Gh} (h : Gh.Le a b) (k : Gh.Le b c) : Gh.Le a c :=
 ⟨k.base.trans h.base, k.w0.trans h.w0, fun _ _ x => k.place _ _ (h.place _ _ x), fun _ _ _ x => k.cB _ _ _ (h.cB _ _ _ x), fun _ _ x => k.bZ _ _ (h.bZ _ _ x), fun _ x => k.res _ (h.res _ x),
   fun q o hq => (k.xX q o (by rw [h.base]; exact hq)).trans (h.xX q o hq), fun q hq => (k.u7 q (by rw [h.base]; exact hq)).trans (h.u7 q hq)⟩
structure Gh.sG (g g' : Gh) : Prop where
 place : ∀ b x, g.place b = some x -> g'.place b = some x
 cB : ∀ b o x, g.cB b o = some x -> g'.cB b o = some x
 bZ : ∀ b x, g.bZ b = some x -> g'.bZ b = some x
theorem Gh.sG.tok {g g' : Gh} (h : Gh.sG g g') {b : Nat} {x : Nat × Nat} (hb : g.tok b = some x) : g'.tok b = some x := by
 obtain ⟨p, h1, h2, h3⟩ := Gh.kf.1 hb
 exact Gh.kf.2 ⟨p, h.place _ _ h1, h2, h3⟩
theorem Gh.sG.mp {g g' : Gh} (h : Gh.sG g g') {b x : Nat} (hb : g.mp b = some x) : g'.mp b = some x := by
 obtain ⟨p, h1, h2⟩ := Gh.oV.1 hb
 exact Gh.oV.2 ⟨p, h.place _ _ h1, h2⟩
theorem Gh.Le.r {g g' : Gh} (h : Gh.Le g g') : Gh.sG g g' := ⟨h.place, h.cB, h.bZ⟩
theorem Gh.Le.box {g g' : Gh} (h : Gh.Le g g') (b : Nat) (x : Place) (hb : g.box b = some x) : g'.box b = some x := h.place b x hb
theorem Gh.Le.tok {g g' : Gh} (h : Gh.Le g g') (b : Nat) (x : Nat × Nat) (hb : g.tok b = some x) : g'.tok b = some x := h.r.tok hb
theorem Gh.Le.mp {g g' : Gh} (h : Gh.Le g g') (b : Nat) (x : Nat) (hb : g.mp b = some x) : g'.mp b = some x := h.r.mp hb
theorem kM.eE {g g' : Gh} (h : Gh.sG g g') {aO off : Nat} {vs : List Value} (hi : kM g aO off vs) : kM g' aO off vs := fun i u hu => h.cB _ _ _ (hi i u hu)
theorem pR.eE {g g' : Gh} (h : Gh.sG g g') {cap : kh} {aO off n c : Nat} (hi : pR g cap aO off n c) : pR g' cap aO off n c := by
 cases cap with
 | full => exact hi
 | own τ => exact ⟨hi.1, h.tok hi.2⟩
 | gC => trivial
mutual
theorem aB.eE {g g' : Gh} (h : Gh.sG g g') : ∀ (x : AV) (v : Value), aB g x v -> aB g' x v
 | .bool _, _, hr => hr
 | .int _ _, _, hr => hr
 | .str _, _, hr => hr
 | .bj, _, hr => hr
 | .ak, _, hr => hr
 | .kx, _, hr => hr
 | .jt, _, hr => hr
 | .dq, _, hr => hr
 | .box _ _, _, hr => by
   simp only [aB] at hr ⊢
   obtain ⟨x, hx, hv⟩ := hr
   exact ⟨x, h.place _ _ hx, hv⟩
 | .cP l, _, hr => by
   simp only [aB] at hr ⊢
   obtain ⟨aO, off, vs, hv, hi, hl⟩ := hr
   exact ⟨aO, off, vs, hv, hi.eE h, aN.eE h l vs hl⟩
 | .vec n cap l, _, hr => by
   simp only [aB] at hr ⊢
   obtain ⟨aO, off, c, vs, hv, h1, h2, hc, hi, hl⟩ := hr
   exact ⟨aO, off, c, vs, hv, h1, h2, hc.eE h, hi.eE h, aN.eE h l vs hl⟩
 | .ms _ _ _ _ _, _, hr => by
   simp only [aB] at hr ⊢
   obtain ⟨x, c, hx, r⟩ := hr
   exact ⟨x, c, h.place _ _ hx, r⟩
 | .mp _, _, hr => by
   simp only [aB] at hr ⊢
   obtain ⟨x, hx, hv⟩ := hr
   exact ⟨x, h.mp hx, hv⟩
 | .fS ks vs, _, hr => by
   simp only [aB] at hr ⊢
   obtain ⟨r, es, c, l, hv, he, hp, hs, h1, h2⟩ := hr
   exact ⟨r, es, c, l, hv, h.bZ _ _ he, hp, hs, aN.eE h ks _ h1, aN.eE h vs _ h2⟩
 | .func fn first captured, _, hr => by
   simp only [aB] at hr ⊢
   obtain ⟨fs, cs, hv, h1, h2⟩ := hr
   exact ⟨fs, cs, hv, aN.eE h first _ h1, aN.eE h captured _ h2⟩
 | .iface t x, _, hr => by
   simp only [aB] at hr ⊢
   obtain ⟨u, hv, h1⟩ := hr
   exact ⟨u, hv, aB.eE h x _ h1⟩
 | .agg l, _, hr => by
   simp only [aB] at hr ⊢
   obtain ⟨vs, hv, h0, h1⟩ := hr
   exact ⟨vs, hv, h0, aN.eE h l _ h1⟩
 | .aU l, _, hr => by
   simp only [aB] at hr ⊢
   obtain ⟨vs, hv, h1⟩ := hr
   exact ⟨vs, hv, aN.eE h l _ h1⟩
 | .rO o, _, hr => by
   simp only [aB] at hr ⊢
   obtain ⟨x, hx, hv⟩ := hr
   exact ⟨x, h.place _ _ hx, hv⟩
 | .it o, _, hr => by
   simp only [aB] at hr ⊢
   obtain ⟨x, hx, hv⟩ := hr
   exact ⟨x, h.place _ _ hx, hv⟩
 | .any, _, _ => by simp only [aB]
theorem aN.eE {g g' : Gh} (h : Gh.sG g g') : ∀ (l : List AV) (vs : List Value), aN g l vs -> aN g' l vs
 | [], _, hr => by simpa only [aN] using hr
 | x :: xs, _, hr => by
   simp only [aN] at hr ⊢
   obtain ⟨u, us, hv, h1, h2⟩ := hr
   exact ⟨u, us, hv, aB.eE h x _ h1, aN.eE h xs _ h2⟩
end
theorem kM.mono {g g' : Gh} (h : Gh.Le g g') {aO off : Nat} {vs : List Value} (hi : kM g aO off vs) : kM g' aO off vs := hi.eE h.r
theorem pR.mono {g g' : Gh} (h : Gh.Le g g') {cap : kh} {aO off n c : Nat} (hi : pR g cap aO off n c) : pR g' cap aO off n c := hi.eE h.r
theorem aB.mono {g g' : Gh} (h : Gh.Le g g') (x : AV) (v : Value) (hr : aB g x v) : aB g' x v := aB.eE h.r x v hr
theorem aN.mono {g g' : Gh} (h : Gh.Le g g') (l : List AV) (vs : List Value) (hr : aN g l vs) : aN g' l vs := aN.eE h.r l vs hr
theorem aN.length {g : Gh} : ∀ {l : List AV} {vs : List Value}, aN g l vs -> vs.length = l.length
 | [], _, h => by simp only [aN] at h; simp [h]
 | _ :: xs, _, h => by
   simp only [aN] at h
   obtain ⟨u, us, rfl, _, h2⟩ := h
   simp [aN.length h2]
theorem aN.append {g : Gh} : ∀ {l l' : List AV} {vs vs' : List Value}, aN g l vs -> aN g l' vs' -> aN g (l ++ l') (vs ++ vs')
 | [], _, _, _, h, h' => by simp only [aN] at h; subst h; simpa using h'
 | _ :: xs, _, _, _, h, h' => by
   simp only [aN, nT] at h ⊢
   obtain ⟨u, us, rfl, h1, h2⟩ := h
   exact ⟨u, us ++ _, rfl, h1, aN.append h2 h'⟩
theorem aN.get {g : Gh} : ∀ {l : List AV} {vs : List Value} {i : Nat} {x : AV}, aN g l vs -> l[i]? = some x -> ∃ v, vs[i]? = some v /\ aB g x v
 | [], _, _, _, _, hx => by simp at hx
 | y :: xs, _, 0, x, h, hx => by
   simp only [aN] at h
   obtain ⟨u, us, rfl, h1, h2⟩ := h
   simp at hx; subst hx; exact ⟨u, rfl, h1⟩
 | y :: xs, _, i + 1, x, h, hx => by
   simp only [aN] at h
   obtain ⟨u, us, rfl, h1, h2⟩ := h
   simp at hx
   obtain ⟨v, hv, hr⟩ := aN.get h2 hx
   exact ⟨v, by simpa using hv, hr⟩
theorem aN.drop {g : Gh} : ∀ {l : List AV} {vs : List Value} (n : Nat), aN g l vs -> aN g (l.drop n) (vs.drop n)
 | _, _, 0, h => by simpa using h
 | [], _, n + 1, h => by simp only [aN] at h; subst h; simp [aN]
 | _ :: xs, _, n + 1, h => by
   simp only [aN] at h
   obtain ⟨u, us, rfl, h1, h2⟩ := h
   simpa using aN.drop n h2
theorem aN.take {g : Gh} : ∀ {l : List AV} {vs : List Value} (n : Nat), aN g l vs -> aN g (l.take n) (vs.take n)
 | _, _, 0, _ => by simp [aN]
 | [], _, n + 1, h => by simp only [aN] at h; subst h; simp [aN]
 | _ :: xs, _, n + 1, h => by
   simp only [aN] at h
   obtain ⟨u, us, rfl, h1, h2⟩ := h
   simp only [List.take_succ_cons, aN]
   exact ⟨u, _, rfl, h1, aN.take n h2⟩
theorem aN.BQ {g : Gh} : ∀ {l : List AV} {vs : List Value}, vs.length = l.length -> (∀ (i : Nat) (x : AV) (v : Value), l[i]? = some x -> vs[i]? = some v -> aB g x v) -> aN g l vs
 | [], vs, hl, _ => by simp only [aN]; simpa using hl
 | x :: xs, [], hl, _ => by simp at hl
 | x :: xs, v :: vs, hl, h => by
   simp only [aN]
   exact ⟨v, vs, rfl, h 0 x v rfl rfl, aN.BQ (by simpa using hl) fun i x v hx hv => h (i + 1) x v (by simpa using hx) (by simpa using hv)⟩
def vJ (g : Gh) (ks vs : List AV) (es : Array MapEntry) : Prop := ∃ l : List MapEntry, l.Perm es.toList /\ oM ks /\ aN g ks (l.map (·.key)) /\ aN g vs (l.map (·.val))
def AQ (g : Gh) (es : Array MapEntry) (seen : Array Nat) (rest : List (AV × AV)) (cur : Option (AV × AV)) : Prop :=
 (∃ l : List MapEntry, l.Perm (es.toList.filter fun e => !seen.contains e.born) /\ aN g (rest.map (·.1)) (l.map (·.key)) /\ aN g (rest.map (·.2)) (l.map (·.val))) /\
 (match cur with
  | none => True
  | some (k, v) => ∃ e ∈ es.toList, seen.back? = some e.born /\ aB g k e.key /\ aB g v e.val)
def kN (g : Gh) (w : World) (p : Place) : Live -> Prop
 | .box l => ∃ cur vs rest, w.heap[p.aO]? = some (.cells cur p.e (0, 0)) /\ cur.size = p.size /\ cur.toList = vs ++ rest /\ aN g l vs /\ (∀ u ∈ cur.toList, u.oneCell' = true) /\ (∀ o, g.cB p.aO o = none)
 | .tok t => ∃ cur, w.heap[p.aO]? = some (.cells cur t.e (0, 0)) /\ cur.size = p.size * t.size /\ t.n <= p.size /\ p.size <= maxLen /\ (∀ o, t.n * t.size <= o -> g.cB p.aO o = none)
 | .mp ks vs => ∃ es clock, w.heap[p.aO]? = some (.map es clock) /\ kg es clock /\ vJ g ks vs es /\ g.bZ p.aO = none
 | .loop L => ∃ fn tmps defers, w.heap[p.aO]? = some (.loop { state := L.state, pending := L.fH, fn, tmps, params := L.params, assign := L.assign, body := L.body, defers }) /\ tmps.size = L.nt /\ ∀ t, aB g (L.ρ t) (tmps.getD t undef)
 | .iter rest cur => ∃ m es clock seen, w.heap[p.aO]? = some (.mapIter (some m) clock seen clock) /\ g.bZ m = some (es, clock) /\ AQ g es seen rest cur
 | .zU t l => p.e = t /\ p.size = l.length /\ ∃ cur vs rest, w.heap[p.aO]? = some (.cells cur p.e (0, 0)) /\ cur.size = p.size /\ cur.toList = vs ++ rest /\ aN g l vs /\ (∀ u ∈ cur.toList, u.oneCell' = true) /\ (∀ o, g.cB p.aO o = none)
structure St where
 live : Nat -> Option Live
 nb : Option Nat
def St.box (U : St) (b : Nat) : Option (List AV) := match U.live b with | some (.box l) => some l | some (.zU _ l) => some l | _ => none
def St.tok (U : St) (b : Nat) : Option Tok := match U.live b with | some (.tok t) => some t | _ => none
def St.mp (U : St) (b : Nat) : Option (List AV × List AV) := match U.live b with | some (.mp ks vs) => some (ks, vs) | _ => none
def St.loop (U : St) (b : Nat) : Option gN := match U.live b with | some (.loop L) => some L | _ => none
def St.iter (U : St) (b : Nat) : Option (List (AV × AV) × Option (AV × AV)) := match U.live b with | some (.iter r c) => some (r, c) | _ => none
theorem St.sK {U : St} {b : Nat} {l : List AV} (h : U.box b = some l) : ∃ x, U.live b = some x /\ ∀ g w p, kN g w p x -> kN g w p (.box l) := by
 unfold St.box at h
 split at h
 · rename_i l' hl; cases h; exact ⟨_, hl, fun _ _ _ h => h⟩
 · rename_i t l' hl; cases h; exact ⟨_, hl, fun _ _ _ h => h.2.2⟩
 · cases h
theorem St.kf {U : St} {b : Nat} {l : Tok} : U.tok b = some l ↔ U.live b = some (.tok l) := by unfold St.tok; split <;> simp_all
theorem St.oV {U : St} {b : Nat} {l : List AV × List AV} : U.mp b = some l ↔ U.live b = some (.mp l.1 l.2) := by unfold St.mp; split <;> simp_all [Prod.ext_iff]
theorem St.my {U : St} {b : Nat} {l : gN} : U.loop b = some l ↔ U.live b = some (.loop l) := by unfold St.loop; split <;> simp_all
theorem St.wc {U : St} {b : Nat} {l : List (AV × AV) × Option (AV × AV)} : U.iter b = some l ↔ U.live b = some (.iter l.1 l.2) := by unfold St.iter; split <;> simp_all [Prod.ext_iff]
def St.set (U : St) (b : Nat) (x : Live) : St := { U with live := fun y => if y = b then some x else U.live y }
def St.del (U : St) (b : Nat) : St := { U with live := fun y => if y = b then none else U.live y }
def St.new (U : St) (b : Nat) (x : Live) : St := { live := fun y => if y = b then some x else U.live y, nb := U.nb.map (· + 1) }
def St.dB (U : St) (b : Nat) : Prop := U.live b = none /\ ∀ n, U.nb = some n -> b = n
structure br (g : Gh) (U : St) (w : World) : Prop where
 below : Below g.base g.w0 w
 le : g.base <= w.heap.size
 cB : ∀ aO o u, g.cB aO o = some u -> w.cell? ⟨aO, o, none⟩ = some u /\ u.oneCell' = true
 bZ : ∀ r es c, g.bZ r = some (es, c) -> w.heap[r]? = some (.map es c) /\ kg es c
 live : ∀ b x, U.live b = some x -> ∃ p, g.place b = some p /\ g.base <= p.aO /\ kN g w p x
 apart : ∀ b b' x x' p p', U.live b = some x -> U.live b' = some x' -> g.place b = some p -> g.place b' = some p' -> p.aO = p'.aO -> b = b'
 res : ∀ r, g.res r = true -> g.base <= r /\ w.heap[r]? = some (.deferred (some []))
 fin : ∃ N, (∀ n, U.nb = some n -> N = n) /\ ∀ b, N <= b -> g.place b = none
end Go.Rip
namespace Go.Rip
open Go.RowKit
structure St.Le (U af : St) : Prop where
 live : ∀ b x, U.live b = some x -> af.live b = some x
 nb : ∀ n, U.nb = some n -> af.nb = some n
theorem St.Le.refl (U : St) : St.Le U U := ⟨fun _ _ h => h, fun _ h => h⟩
theorem St.Le.trans {a b c : St} (h : St.Le a b) (k : St.Le b c) : St.Le a c := ⟨fun _ _ x => k.live _ _ (h.live _ _ x), fun _ x => k.nb _ (h.nb _ x)⟩
theorem St.sL (U : St) (b : Nat) : St.Le (U.del b) U := ⟨fun x y hx => by simp only [St.del] at hx; split at hx <;> simp_all, fun _ h => h⟩
theorem br.weaken {g : Gh} {U af : St} {w : World} (h : br g af w) (hl : St.Le U af) : br g U w where
 below := h.below
 le := h.le
 cB := h.cB
 bZ := h.bZ
 live := fun b l hb => h.live b l (hl.live _ _ hb)
 apart := fun b b' l l' x x' h1 h2 => h.apart b b' l l' x x' (hl.live _ _ h1) (hl.live _ _ h2)
 res := h.res
 fin := let ⟨N, h1, h2⟩ := h.fin; ⟨N, fun n hn => h1 n (hl.nb n hn), h2⟩
theorem Eh {w w' : World} {k : Nat} (h : w'.heap[k]? = w.heap[k]?) (o : Nat) : w'.cell? ⟨k, o, none⟩ = w.cell? ⟨k, o, none⟩ := by simp [World.cell?, h]
theorem br.Mc {g : Gh} {U : St} {w : World} (h : br g U w) {aO o : Nat} {u : Value} (hi : g.cB aO o = some u) : aO < w.heap.size :=
 World.block_lt_of_cell? w ⟨aO, o, none⟩ (h.cB _ _ _ hi).1
theorem br.Is {g : Gh} {U : St} {w : World} (h : br g U w) {r : Nat} {x : Array MapEntry × Nat} (hi : g.bZ r = some x) : r < w.heap.size :=
 (kz.1 (h.bZ r x.1 x.2 hi).1).1
theorem br.y6 {g : Gh} {U : St} {w : World} (h : br g U w) {q : Nat} (hq : w.heap.size <= q) (o : Nat) : g.cB q o = none := by
 cases e : g.cB q o with
 | none => rfl
 | some u => have := h.Mc e; omega
theorem br.vU {g : Gh} {U : St} {w : World} (h : br g U w) {q : Nat} (hq : w.heap.size <= q) : g.bZ q = none := by
 cases e : g.bZ q with
 | none => rfl
 | some u => have := h.Is e; omega
theorem vJ.eE {g g' : Gh} (h : Gh.sG g g') {ks vs : List AV} {es : Array MapEntry} (hm : vJ g ks vs es) : vJ g' ks vs es :=
 let ⟨l, h1, h2, h3, h4⟩ := hm; ⟨l, h1, h2, h3.eE h, h4.eE h⟩
theorem AQ.eE {g g' : Gh} (h : Gh.sG g g') {es : Array MapEntry} {seen : Array Nat} {rest : List (AV × AV)} {cur : Option (AV × AV)} (hm : AQ g es seen rest cur) : AQ g' es seen rest cur := by
 obtain ⟨⟨l, h1, h2, h3⟩, h4⟩ := hm
 refine ⟨⟨l, h1, h2.eE h, h3.eE h⟩, ?_⟩
 cases cur with
 | none => trivial
 | some kv => obtain ⟨e, k1, k2, k3, k4⟩ := h4; exact ⟨e, k1, k2, k3.eE h, k4.eE h⟩
theorem kN.frame {g g' : Gh} {w w' : World} {p : Place} {x : Live} (h : kN g w p x) (hl : Gh.sG g g') (hb : w'.heap[p.aO]? = w.heap[p.aO]?) (hi : ∀ o, g'.cB p.aO o = g.cB p.aO o) (hm : g'.bZ p.aO = g.bZ p.aO) : kN g' w' p x := by
 cases x with
 | box l => obtain ⟨cur, vs, rest, h1, h2, h3, h4, h5, h6⟩ := h; exact ⟨cur, vs, rest, hb.trans h1, h2, h3, h4.eE hl, h5, fun o => (hi o).trans (h6 o)⟩
 | tok t => obtain ⟨cur, h1, h2, h3, h4, h5⟩ := h; exact ⟨cur, hb.trans h1, h2, h3, h4, fun o ho => (hi o).trans (h5 o ho)⟩
 | mp ks vs => obtain ⟨es, clock, h1, h2, h3, h4⟩ := h; exact ⟨es, clock, hb.trans h1, h2, h3.eE hl, hm.trans h4⟩
 | loop L => obtain ⟨fn, tmps, defers, h1, h2, h3⟩ := h; exact ⟨fn, tmps, defers, hb.trans h1, h2, fun t => (h3 t).eE hl⟩
 | iter rest cur => obtain ⟨m, es, clock, seen, h1, h2, h3⟩ := h; exact ⟨m, es, clock, seen, hb.trans h1, hl.bZ _ _ h2, h3.eE hl⟩
 | zU t l => obtain ⟨e1, e2, cur, vs, rest, h1, h2, h3, h4, h5, h6⟩ := h; exact ⟨e1, e2, cur, vs, rest, hb.trans h1, h2, h3, h4.eE hl, h5, fun o => (hi o).trans (h6 o)⟩
theorem kN.lt {g : Gh} {w : World} {p : Place} {x : Live} (h : kN g w p x) : p.aO < w.heap.size := by
 have : ∃ o, w.heap[p.aO]? = some o := by
  cases x with
  | box l => obtain ⟨cur, vs, rest, h1, _⟩ := h; exact ⟨_, h1⟩
  | tok t => obtain ⟨cur, h1, _⟩ := h; exact ⟨_, h1⟩
  | mp ks vs => obtain ⟨es, clock, h1, _⟩ := h; exact ⟨_, h1⟩
  | loop L => obtain ⟨fn, tmps, defers, h1, _⟩ := h; exact ⟨_, h1⟩
  | iter rest cur => obtain ⟨m, es, clock, seen, h1, _⟩ := h; exact ⟨_, h1⟩
  | zU t l => obtain ⟨_, _, cur, vs, rest, h1, _⟩ := h; exact ⟨_, h1⟩
 exact (kz.1 this.choose_spec).1
theorem kN.IN {g : Gh} {w : World} {p : Place} {x : Live} (h : kN g w p x) {r : Nat} {ds : Option (List Deferred)} (hr : w.heap[r]? = some (.deferred ds)) : p.aO ≠ r := by
 intro e
 subst e
 cases x with
 | box l => obtain ⟨cur, vs, rest, h1, _⟩ := h; rw [hr] at h1; cases h1
 | tok t => obtain ⟨cur, h1, _⟩ := h; rw [hr] at h1; cases h1
 | mp ks vs => obtain ⟨es, clock, h1, _⟩ := h; rw [hr] at h1; cases h1
 | loop L => obtain ⟨fn, tmps, defers, h1, _⟩ := h; rw [hr] at h1; cases h1
 | iter rest cur => obtain ⟨m, es, clock, seen, h1, _⟩ := h; rw [hr] at h1; cases h1
 | zU t l => obtain ⟨_, _, cur, vs, rest, h1, _⟩ := h; rw [hr] at h1; cases h1
theorem br.change {g g' : Gh} {U : St} {w w' : World} (h : br g U w) (B : Nat) (hB : g.base <= B) (hle : Gh.Le g g') (oR : g'.place = g.place) (hres : g'.res = g.res)
 (hw : w'.os = w.os /\ w'.tape = w.tape /\ w'.output = w.output /\ w.heap.size <= w'.heap.size) (hk : ∀ k, k ≠ B -> k < w.heap.size -> w'.heap[k]? = w.heap[k]?)
 (nk : ∀ q o, q ≠ B -> g'.cB q o = g.cB q o) (S8 : ∀ q, q ≠ B -> g'.bZ q = g.bZ q)
 (hi : ∀ o u, g'.cB B o = some u -> w'.cell? ⟨B, o, none⟩ = some u /\ u.oneCell' = true) (hm : ∀ es c, g'.bZ B = some (es, c) -> w'.heap[B]? = some (.map es c) /\ kg es c)
 (fM : ∀ b x p, U.live b = some x -> g.place b = some p -> p.aO ≠ B) (aaT : g.res B = false) : br g' U w' := by
 have aL : ∀ k o, w.heap[k]? = some o -> k ≠ B -> w'.heap[k]? = some o := fun k o hko hn => by rw [hk k hn (kz.1 hko).1]; exact hko
 exact {
  below := by
   rw [hle.base, hle.w0]
   exact h.below.trans ⟨hw.1, hw.2.1, hw.2.2.1, hw.2.2.2, fun k hkb => hk k (by omega) (by have := h.le; omega)⟩
  le := by rw [hle.base]; exact Nat.le_trans h.le hw.2.2.2
  cB := fun q o u hu => by
   by_cases hq : q = B
   · subst hq; exact hi o u hu
   · rw [nk q o hq] at hu
     rw [Eh (hk q hq (h.Mc hu))]; exact h.cB _ _ _ hu
  bZ := fun r es c hr => by
   by_cases hq : r = B
   · subst hq; exact hm es c hr
   · rw [S8 r hq] at hr
     rw [hk r hq (h.Is hr)]; exact h.bZ _ _ _ hr
  live := fun b x hb => by
   obtain ⟨p, h1, h2, h3⟩ := h.live b x hb
   have Io := fM b x p hb h1
   refine ⟨p, by rw [oR]; exact h1, by rw [hle.base]; exact h2, h3.frame hle.r (hk _ Io h3.lt) (fun o => nk _ _ Io) (S8 _ Io)⟩
  apart := fun b b' x x' p p' h1 h2 h3 h4 h5 => by rw [oR] at h3 h4; exact h.apart b b' x x' p p' h1 h2 h3 h4 h5
  res := fun r hr => by
   rw [hres] at hr
   obtain ⟨h1, h2⟩ := h.res r hr
   rw [hle.base]
   exact ⟨h1, aL _ _ h2 (fun e => by subst e; rw [aaT] at hr; cases hr)⟩
  fin := by rw [oR]; exact h.fin }
theorem br.named {g : Gh} {U : St} {w : World} (h : br g U w) {b : Nat} {p : Place} {x : Live} (hb : g.place b = some p) (hB : g.base <= p.aO) (hx : kN g w p x)
 (fM : ∀ b' x' p', b' ≠ b -> U.live b' = some x' -> g.place b' = some p' -> p'.aO ≠ p.aO) : br g (U.set b x) w where
 below := h.below
 le := h.le
 cB := h.cB
 bZ := h.bZ
 live := fun b' x' eA => by
  simp only [St.set] at eA
  split at eA
  · rename_i e; subst e; cases eA; exact ⟨p, hb, hB, hx⟩
  · exact h.live b' x' eA
 apart := fun b1 b2 x1 x2 p1 p2 h1 h2 h3 h4 h5 => by
  simp only [St.set] at h1 h2
  by_cases e1 : b1 = b <;> by_cases e2 : b2 = b
  · rw [e1, e2]
  · rw [if_neg e2] at h2
    subst e1; rw [hb] at h3; cases h3
    exact absurd h5.symm (fM _ _ _ e2 h2 h4)
  · rw [if_neg e1] at h1
    subst e2; rw [hb] at h4; cases h4
    exact absurd h5 (fM _ _ _ e1 h1 h3)
  · rw [if_neg e1] at h1; rw [if_neg e2] at h2
    exact h.apart _ _ _ _ _ _ h1 h2 h3 h4 h5
 res := h.res
 fin := h.fin
def Gh.nD (g : Gh) (b : Nat) (p : Place) : Gh := { g with place := fun y => if y = b then some p else g.place y }
theorem Gh.jy (g : Gh) (b : Nat) (p : Place) : (g.nD b p).place b = some p := by simp [Gh.nD]
theorem Gh.mV (g : Gh) {b y : Nat} (p : Place) (h : y ≠ b) : (g.nD b p).place y = g.place y := by simp [Gh.nD, h]
theorem Gh.zM {g : Gh} {b : Nat} (p : Place) (h : g.place b = none) : Gh.Le g (g.nD b p) :=
 ⟨rfl, rfl, fun y x hy => by rw [Gh.mV _ _ (fun e => by subst e; rw [h] at hy; cases hy)]; exact hy, fun _ _ _ h => h, fun _ _ h => h, fun _ h => h, fun _ _ _ => rfl, fun _ _ => rfl⟩
theorem br.newName {g : Gh} {U : St} {w : World} (h : br g U w) (p : Place) (hB : g.base <= p.aO) (fM : ∀ b' x' p', U.live b' = some x' -> g.place b' = some p' -> p'.aO ≠ p.aO) :
 ∃ b, U.dB b /\ Gh.Le g (g.nD b p) /\ ∀ x, kN (g.nD b p) w p x -> br (g.nD b p) (U.new b x) w := by
 obtain ⟨N, hN1, hN2⟩ := h.fin
 have DD : g.place N = none := hN2 N (cG _)
 have hln : U.live N = none := by
  cases e : U.live N with
  | none => rfl
  | some x => obtain ⟨p, h1, _⟩ := h.live N x e; rw [DD] at h1; cases h1
 refine ⟨N, ⟨hln, hN1⟩, Gh.zM p DD, fun x hx => ?_⟩
 have hle := Gh.zM (g := g) p DD
 have cH : ∀ b x, U.live b = some x -> b ≠ N := fun b x hb e => by subst e; rw [hln] at hb; cases hb
 exact {
  below := h.below
  le := h.le
  cB := h.cB
  bZ := h.bZ
  live := fun b' x' eA => by
   simp only [St.new] at eA
   split at eA
   · rename_i e; subst e; cases eA; exact ⟨p, Gh.jy _ _ _, hB, hx⟩
   · obtain ⟨p', h1, h2, h3⟩ := h.live b' x' eA
     exact ⟨p', hle.place _ _ h1, h2, h3.frame hle.r rfl (fun _ => rfl) rfl⟩
  apart := fun b1 b2 x1 x2 p1 p2 h1 h2 h3 h4 h5 => by
   simp only [St.new] at h1 h2
   by_cases e1 : b1 = N <;> by_cases e2 : b2 = N
   · rw [e1, e2]
   · rw [if_neg e2] at h2; rw [Gh.mV _ _ e2] at h4
     subst e1; rw [Gh.jy] at h3; cases h3
     exact absurd h5.symm (fM _ _ _ h2 h4)
   · rw [if_neg e1] at h1; rw [Gh.mV _ _ e1] at h3
     subst e2; rw [Gh.jy] at h4; cases h4
     exact absurd h5 (fM _ _ _ h1 h3)
   · rw [if_neg e1] at h1; rw [if_neg e2] at h2
     rw [Gh.mV _ _ e1] at h3; rw [Gh.mV _ _ e2] at h4
     exact h.apart _ _ _ _ _ _ h1 h2 h3 h4 h5
  res := h.res
  fin := ⟨N + 1, fun n hn => by
   simp only [St.new, oI] at hn
   obtain ⟨m, hm, rfl⟩ := hn
   rw [hN1 m hm], fun b hb => by rw [Gh.mV _ _ (by omega)]; exact hN2 b (by omega)⟩ }
theorem br.grow {g : Gh} {U : St} {w w' : World} (h : br g U w) (hg : w.grownBy w' none) : br g U w' := by
 have hb : ∀ k, k < w.heap.size -> w'.heap[k]? = w.heap[k]? := fun k hk => hg.block k hk (by simp)
 refine h.change w.heap.size h.le (Gh.Le.refl g) rfl rfl ⟨hg.os, hg.tape, hg.output, hg.size⟩ (fun k _ hk => hb k hk) (fun _ _ _ => rfl) (fun _ _ => rfl) (fun o u hu => ?_) (fun es c hr => ?_) (fun b x p h1 h2 => ?_) ?_
 · rw [h.y6 (cG _)] at hu; cases hu
 · rw [h.vU (cG _)] at hr; cases hr
 · obtain ⟨p', k1, _, k3⟩ := h.live b x h1
   rw [h2] at k1; cases k1
   exact Nat.ne_of_lt k3.lt
 · cases e : g.res w.heap.size with
   | false => rfl
   | true => have := (kz.1 (h.res _ e).2).1; omega
theorem kj (w : World) : w.grownBy w.drew none := ⟨rfl, rfl, rfl, cG _, fun _ _ _ => rfl⟩
theorem br.C4 {g : Gh} {U : St} {w : World} (h : br g U w) {q : Nat} (hq : w.heap.size <= q) : g.res q = false := by
 cases e : g.res q with
 | false => rfl
 | true => have := (kz.1 (h.res _ e).2).1; omega
theorem br.wm {g : Gh} {U : St} {w : World} (h : br g U w) {b : Nat} {x : Live} {p : Place} (hb : U.live b = some x) (hp : g.place b = some p) : p.aO < w.heap.size := by
 obtain ⟨p', k1, _, k3⟩ := h.live b x hb
 rw [hp] at k1; cases k1
 exact k3.lt
theorem br.tl {g : Gh} {U : St} {w : World} (h : br g U w) {b : Nat} {x : Live} {p : Place} (hb : U.live b = some x) (hp : g.place b = some p) : g.res p.aO = false := by
 cases e : g.res p.aO with
 | false => rfl
 | true =>
   obtain ⟨p', k1, _, k3⟩ := h.live b x hb
   rw [hp] at k1; cases k1
   exact absurd rfl (k3.IN (h.res _ e).2)
theorem br.tc {g : Gh} {U : St} {w : World} (h : br g U w) (o : Obj) (e : TypeId) (size : Nat) (x : Live)
 (hx : ∀ g', Gh.Le g g' -> (∀ o, g'.cB w.heap.size o = none) -> g'.bZ w.heap.size = none -> kN g' (w.alloc o) ⟨w.heap.size, e, size⟩ x) :
 ∃ b g', U.dB b /\ Gh.Le g g' /\ g'.place b = some ⟨w.heap.size, e, size⟩ /\ br g' (U.new b x) (w.alloc o) := by
 have hs := h.grow (w.grownBy_alloc o none)
 obtain ⟨b, h1, h2, h3⟩ := hs.newName ⟨w.heap.size, e, size⟩ h.le (fun b' x' p' k1 k2 => Nat.ne_of_lt (h.wm k1 k2))
 exact ⟨b, _, h1, h2, Gh.jy _ _ _, h3 x (hx _ h2 (fun o => h.y6 (cG _) o) (h.vU (cG _)))⟩
end Go.Rip
namespace Go.Rip
open Go.RowKit
def St.cw (U : St) (b : Nat) (l : List AV) : St := U.set b (.box l)
def St.abf (U : St) (b : Nat) (kv : List AV × List AV) : St := U.set b (.mp kv.1 kv.2)
theorem br.box {g : Gh} {U : St} {w : World} (h : br g U w) (b : Nat) (l : List AV) (hb : U.box b = some l) : ∃ x cur vs rest, g.box b = some x /\ g.base <= x.aO /\ w.heap[x.aO]? = some (.cells cur x.e (0, 0)) /\ cur.size = x.size /\ cur.toList = vs ++ rest /\ aN g l vs /\
 (∀ u ∈ cur.toList, u.oneCell' = true) /\ (∀ o, g.cB x.aO o = none) := by
 obtain ⟨y, hy, YE⟩ := St.sK hb
 obtain ⟨p, h1, h2, hp⟩ := h.live b _ hy
 obtain ⟨cur, vs, rest, h3, h4, h5, h6, h7, h8⟩ := YE _ _ _ hp
 exact ⟨p, cur, vs, rest, h1, h2, h3, h4, h5, h6, h7, h8⟩
theorem br.tok {g : Gh} {U : St} {w : World} (h : br g U w) (τ : Nat) (t : Tok) (ht : U.tok τ = some t) : ∃ aO c cur, g.tok τ = some (aO, c) /\ g.base <= aO /\ w.heap[aO]? = some (.cells cur t.e (0, 0)) /\ cur.size = c * t.size /\ t.n <= c /\ c <= maxLen /\
 (∀ o, t.n * t.size <= o -> g.cB aO o = none) := by
 obtain ⟨p, h1, h2, cur, h3, h4, h5, h6, h7⟩ := h.live τ _ (St.kf.1 ht)
 exact ⟨p.aO, p.size, cur, Gh.kf.2 ⟨p, h1, rfl, rfl⟩, h2, h3, h4, h5, h6, h7⟩
theorem br.mp {g : Gh} {U : St} {w : World} (h : br g U w) (m : Nat) (kv : List AV × List AV) (hm : U.mp m = some kv) : ∃ r es clock, g.mp m = some r /\ g.base <= r /\ w.heap[r]? = some (.map es clock) /\ kg es clock /\ vJ g kv.1 kv.2 es /\ g.bZ r = none := by
 obtain ⟨p, h1, h2, es, clock, h3, h4, h5, h6⟩ := h.live m _ (St.oV.1 hm)
 exact ⟨p.aO, es, clock, Gh.oV.2 ⟨p, h1, rfl⟩, h2, h3, h4, h5, h6⟩
theorem br.rewrite {g : Gh} {U : St} {w w' : World} (h : br g U w) {b : Nat} {x x' : Live} {p : Place} (hb : U.live b = some x) (hp : g.place b = some p)
 (hw : w'.os = w.os /\ w'.tape = w.tape /\ w'.output = w.output /\ w.heap.size <= w'.heap.size) (hk : ∀ k, k ≠ p.aO -> k < w.heap.size -> w'.heap[k]? = w.heap[k]?)
 (hi : ∀ o, g.cB p.aO o = none) (hm : g.bZ p.aO = none) (hx : kN g w' p x') : br g (U.set b x') w' := by
 obtain ⟨p', k1, k2, k3⟩ := h.live b x hb
 rw [hp] at k1; cases k1
 have fM : ∀ b' x' p', b' ≠ b -> U.live b' = some x' -> g.place b' = some p' -> p'.aO ≠ p.aO := fun b' x' p' cH h1 h2 e => cH (h.apart _ _ _ _ _ _ h1 hb h2 hp e)
 have hd : ∀ b' x' p', (U.del b).live b' = some x' -> g.place b' = some p' -> p'.aO ≠ p.aO := fun b' x' p' h1 h2 => by
  simp only [St.del] at h1
  split at h1
  · cases h1
  · rename_i e; exact fM _ _ _ e h1 h2
 have h1 := (h.weaken (St.sL U b)).change p.aO k2 (Gh.Le.refl g) rfl rfl hw hk (fun _ _ _ => rfl) (fun _ _ => rfl) (fun o u hu => by rw [hi] at hu; cases hu) (fun es c hr => by rw [hm] at hr; cases hr) hd (h.tl hb hp)
 have h2 := h1.named hp k2 hx (fun b' x' p' _ q1 q2 => hd b' x' p' q1 q2)
 have e : (U.del b).set b x' = U.set b x' := by
  simp only [St.del, St.set, St.mk.injEq, and_true]
  funext y
  split <;> rfl
 rw [<- e]; exact h2
theorem br.cJ {g : Gh} {U : St} {w : World} (h : br g U w) (e : TypeId) (cur : Array Value) (vs rest : List Value) (l : List AV) (hc : cur.toList = vs ++ rest) (hl : aN g l vs) (h1 : ∀ u ∈ cur.toList, u.oneCell' = true) :
 ∃ b g', U.dB b /\ Gh.Le g g' /\ g'.box b = some ⟨w.heap.size, e, cur.size⟩ /\ br g' (U.new b (.box l)) (w.alloc (.cells cur e)) :=
 h.tc (.cells cur e) e cur.size (.box l) fun g' hle hi hm => ⟨cur, vs, rest, heap_alloc_new w _, rfl, hc, hl.mono hle, h1, hi⟩
theorem br.MH {g : Gh} {U : St} {w : World} (h : br g U w) (e : TypeId) (cur : Array Value) (vs rest : List Value) (hc : cur.toList = vs ++ rest) (h1 : ∀ u ∈ cur.toList, u.oneCell' = true) :
 ∃ g', Gh.Le g g' /\ kM g' w.heap.size 0 vs /\ (∀ o, vs.length <= o -> g'.cB w.heap.size o = none) /\ g'.place = g.place /\ br g' U (w.alloc (.cells cur e)) := by
 let g' : Gh := { g with cB := fun aO o => if aO = w.heap.size then vs[o]? else g.cB aO o }
 have pd : ∀ o, g'.cB w.heap.size o = vs[o]? := fun o => by show (if w.heap.size = w.heap.size then _ else _) = _; rw [if_pos rfl]
 have hold : ∀ aO o, aO ≠ w.heap.size -> g'.cB aO o = g.cB aO o := fun aO o hx => by show (if aO = w.heap.size then _ else _) = _; rw [if_neg hx]
 have hle : Gh.Le g g' := ⟨rfl, rfl, fun _ _ h => h, fun aO o u hu => by
  rw [hold _ _ (fun e => by subst e; rw [h.y6 (cG _)] at hu; cases hu)]; exact hu, fun _ _ h => h, fun _ h => h, fun q o hq => hold _ _ (by have := h.le; omega), fun _ _ => rfl⟩
 have hg := w.grownBy_alloc (.cells cur e) none
 refine ⟨g', hle, fun i u hu => by rw [bW, pd]; exact hu, fun o ho => by rw [pd]; simpa using ho, rfl, ?_⟩
 refine h.change w.heap.size h.le hle rfl rfl ⟨hg.os, hg.tape, hg.output, hg.size⟩ (fun k _ hk => hg.block k hk (by simp)) (fun q o hq => hold q o hq) (fun _ _ => rfl) (fun o u hu => ?_) (fun es c hr => ?_) (fun b x p k1 k2 => Nat.ne_of_lt (h.wm k1 k2)) (h.C4 (cG _))
 · rw [pd] at hu
   have hcu : cur[o]? = some u := by
    rw [<- kB, hc, wx (by
     rcases eZ o vs.length with h | h
     · exact h
     · simp [l9 h] at hu)]
    exact hu
   exact ⟨by rw [cell_of_row _ _ _ cur e (0, 0) (heap_alloc_new w _)]; exact hcu, h1 u (gK (by rw [kB]; exact hcu))⟩
 · have : g.bZ w.heap.size = some (es, c) := hr
   rw [h.vU (cG _)] at this; cases this
theorem br.mM {g : Gh} {U : St} {w : World} (h : br g U w) {r : Nat} {c : Array Value} {e : TypeId} {f : Nat × Nat} (hh : w.heap[r]? = some (.cells c e f)) : g.bZ r = none := by
 cases e : g.bZ r with
 | none => rfl
 | some x => have := (h.bZ r x.1 x.2 e).1; rw [hh] at this; cases this
theorem br.setRow {g : Gh} {U : St} {w : World} (h : br g U w) {b : Nat} {l l' : List AV} {x : Place} (hb : U.box b = some l) (hx : g.box b = some x)
 (cur : Array Value) (vs rest : List Value) (fi : cur.size = x.size) (hc : cur.toList = vs ++ rest) (hl : aN g l' vs) (h1 : ∀ u ∈ cur.toList, u.oneCell' = true) :
 br g (U.cw b l') (w.setRow x.aO cur) := by
 obtain ⟨x', Xr, vs0, aa9, k1, k2, k3, k4, k5, k6, k7, k8⟩ := h.box b l hb
 rw [hx] at k1; cases k1
 obtain ⟨y, hy, _⟩ := St.sK hb
 exact h.rewrite hy hx ⟨rfl, rfl, rfl, by simp⟩ (fun k hk _ => setRow_other _ _ _ _ hk) k8 (h.mM k3) ⟨cur, vs, rest, setRow_heap w x.aO Xr cur x.e (0, 0) k3, fi, hc, hl, h1, k8⟩
theorem br.aa8 {g : Gh} {U : St} {w : World} (h : br g U w) {b : Nat} {l : List AV} (hb : U.box b = some l) : br g (U.cw b l) w := by
 obtain ⟨y, hy, YE⟩ := St.sK hb
 obtain ⟨p, h1, h2, hp⟩ := h.live b _ hy
 obtain ⟨cur, vs, rest, h3, h4, h5, h6, h7, h8⟩ := YE _ _ _ hp
 exact h.rewrite hy h1 ⟨rfl, rfl, rfl, cG _⟩ (fun _ _ _ => rfl) h8 (h.mM h3) ⟨cur, vs, rest, h3, h4, h5, h6, h7, h8⟩
theorem CQ {cur cur' : Array Value} {a : Nat} {news : List Value} (ha : a <= cur.size) (Ih : cur'.toList = cur.toList.take a ++ news ++ cur.toList.drop (a + news.length)) (o : Nat) :
 cur'[o]? = if o < a then cur[o]? else if o < a + news.length then news[o - a]? else cur[o]? := by
 rw [<- kB, Ih, qT]
 have hl : (cur.toList.take a).length = a := by simp; omega
 by_cases h1 : o < a
 · rw [if_pos h1, wx (by omega), List.getElem?_take, if_pos h1, kB]
 · rw [if_neg h1, List.getElem?_append_right (by omega), hl]
   by_cases h2 : o < a + news.length
   · rw [if_pos h2, wx (by omega)]
   · rw [if_neg h2, List.getElem?_append_right (by omega), List.getElem?_drop, kB]
     congr 1; omega
theorem br.Zw {g : Gh} {U : St} {w : World} (h : br g U w) {τ : Nat} {t : Tok} {aO c : Nat} (ht : U.tok τ = some t) (hg : g.tok τ = some (aO, c))
 (cur cur' : Array Value) (news : List Value) (m : Nat) (JP : w.heap[aO]? = some (.cells cur t.e (0, 0))) (hlen : news.length = m * t.size) (Al : t.n + m <= c)
 (Ih : cur'.toList = cur.toList.take (t.n * t.size) ++ news ++ cur.toList.drop (t.n * t.size + news.length)) (h1 : ∀ u ∈ news, u.oneCell' = true) :
 ∃ sb g', (U.del τ).dB sb /\ Gh.Le g g' /\ g'.tok sb = some (aO, c) /\ kM g' aO (t.n * t.size) news /\ br g' ((U.del τ).new sb (.tok ⟨t.n + m, t.e, t.size⟩)) (w.setRow aO cur') := by
 obtain ⟨p, hp, Io, hpc⟩ := Gh.kf.1 hg
 dsimp only at Io hpc
 subst Io hpc
 obtain ⟨p', k1, k2, Xr, k3, k4, k5, k6, k7⟩ := h.live τ _ (St.kf.1 ht)
 rw [hp] at k1; cases k1
 rw [JP] at k3; cases k3
 have sQ : (t.n + m) * t.size <= cur.size := by rw [k4]; exact Nat.mul_le_mul_right _ Al
 have Ym : (t.n + m) * t.size = t.n * t.size + news.length := by rw [hlen, Nat.add_mul]
 have fi : cur'.size = cur.size := by
  have := congrArg List.length Ih
  simp only [rU, eQ, List.length_take, List.length_drop] at this
  omega
 let g' : Gh := { g with cB := fun q o => if q = p.aO /\ t.n * t.size <= o /\ o < t.n * t.size + news.length then news[o - t.n * t.size]? else g.cB q o }
 have nk : ∀ q o, q ≠ p.aO -> g'.cB q o = g.cB q o := fun q o hq => by
  show (if _ then _ else _) = _
  rw [if_neg (fun e => hq e.1)]
 have hle : Gh.Le g g' := ⟨rfl, rfl, fun _ _ h => h, fun q o u hu => by
  show (if _ then _ else _) = _
  rw [if_neg (fun e => by obtain ⟨rfl, e2, _⟩ := e; rw [k7 o e2] at hu; cases hu)]; exact hu, fun _ _ h => h, fun _ h => h, fun q o hq => nk _ _ (by omega), fun _ _ => rfl⟩
 have FN := setRow_heap w p.aO cur cur' t.e (0, 0) JP
 have rR := fun o => CQ (cur := cur) (cur' := cur') (a := t.n * t.size) (news := news) (by omega) Ih o
 have fM : ∀ b' x' p', (U.del τ).live b' = some x' -> g.place b' = some p' -> p'.aO ≠ p.aO := fun b' x' p' h1 h2 e => by
  simp only [St.del] at h1
  split at h1
  · cases h1
  · rename_i ne; exact ne (h.apart _ _ _ _ _ _ h1 (St.kf.1 ht) h2 hp e)
 have hs := (h.weaken (St.sL U τ)).change (w' := w.setRow p.aO cur') p.aO k2 hle rfl rfl ⟨rfl, rfl, rfl, by simp⟩ (fun k hk _ => setRow_other _ _ _ _ hk) nk (fun _ _ => rfl) (fun o u hu => by
  rw [cell_of_row _ _ _ cur' t.e (0, 0) FN, rR]
  have oB : (if p.aO = p.aO /\ t.n * t.size <= o /\ o < t.n * t.size + news.length then news[o - t.n * t.size]? else g.cB p.aO o) = some u := hu
  by_cases ho : o < t.n * t.size
  · rw [if_pos ho]
    rw [if_neg (by omega)] at oB
    have := h.cB _ _ _ oB
    rw [cell_of_row _ _ _ cur t.e (0, 0) JP] at this
    exact this
  · rw [if_neg ho]
    by_cases Th : o < t.n * t.size + news.length
    · rw [if_pos Th]
      rw [if_pos ⟨rfl, by omega, Th⟩] at oB
      exact ⟨oB, h1 u (gK oB)⟩
    · rw [if_neg (by omega)] at oB
      rw [k7 o (by omega)] at oB; cases oB) (fun es c hr => by
  have hr : g.bZ p.aO = some (es, c) := hr
  rw [h.mM JP] at hr; cases hr) fM (h.tl (St.kf.1 ht) hp)
 obtain ⟨sb, f1, f2, f3⟩ := hs.newName p k2 fM
 refine ⟨sb, _, f1, hle.trans f2, Gh.kf.2 ⟨p, Gh.jy _ _ _, rfl, rfl⟩, fun i u hu => ?_, f3 _ ⟨cur', FN, by rw [fi]; exact k4, Al, k6, fun o ho => ?_⟩⟩
 · have hi : i < news.length := by
    rcases eZ i news.length with h | h
    · exact h
    · simp [l9 h] at hu
   show (if _ then _ else _) = _
   rw [if_pos ⟨rfl, by omega, by omega⟩, Nat.add_sub_cancel_left]; exact hu
 · have ho : (t.n + m) * t.size <= o := ho
   show (if _ then _ else _) = _
   rw [if_neg (by omega)]; exact k7 o (by omega)
theorem br.rename {g : Gh} {U : St} {w : World} (h : br g U w) {b : Nat} {x : Live} {p : Place} (hb : U.live b = some x) (hp : g.place b = some p) :
 ∃ b' g', (U.del b).dB b' /\ Gh.Le g g' /\ g'.place b' = some p /\ br g' ((U.del b).new b' x) w := by
 obtain ⟨p', k1, k2, k3⟩ := h.live b x hb
 rw [hp] at k1; cases k1
 obtain ⟨b', f1, f2, f3⟩ := (h.weaken (St.sL U b)).newName p k2 (fun b' x' p' h1 h2 e => by
  simp only [St.del] at h1
  split at h1
  · cases h1
  · rename_i ne; exact ne (h.apart _ _ _ _ _ _ h1 hb h2 hp e))
 exact ⟨b', _, f1, f2, Gh.jy _ _ _, f3 x (k3.frame f2.r rfl (fun _ => rfl) rfl)⟩
theorem br.mP {g : Gh} {U : St} {w : World} (h : br g U w) (e : TypeId) (size n c : Nat) (cur : Array Value) (vs rest : List Value) (hc : cur.toList = vs ++ rest) (h1 : ∀ u ∈ cur.toList, u.oneCell' = true)
 (DG : vs.length = n * size) (sQ : cur.size = c * size) (DB : n <= c) (uZ : c <= maxLen) :
 ∃ τ g', U.dB τ /\ Gh.Le g g' /\ g'.tok τ = some (w.heap.size, c) /\ kM g' w.heap.size 0 vs /\ br g' (U.new τ (.tok ⟨n, e, size⟩)) (w.alloc (.cells cur e)) := by
 obtain ⟨g1, FA, nk, fM, oR, hs⟩ := h.MH e cur vs rest hc h1
 obtain ⟨τ, f1, f2, f3⟩ := hs.newName ⟨w.heap.size, e, c⟩ (by rw [FA.base]; exact h.le) (fun b' x' p' k1 k2 => by rw [oR] at k2; exact Nat.ne_of_lt (h.wm k1 k2))
 exact ⟨τ, _, f1, FA.trans f2, Gh.kf.2 ⟨_, Gh.jy _ _ _, rfl, rfl⟩, nk, f3 _ ⟨cur, heap_alloc_new w _, sQ, DB, uZ, fun o ho => fM o (by rw [DG]; exact ho)⟩⟩
theorem br.freeze {g : Gh} {U : St} {w : World} (h : br g U w) {b : Nat} {l : List AV} {x : Place} (hb : U.box b = some l) (hx : g.box b = some x) :
 ∃ g' vs, Gh.Le g g' /\ g'.place = g.place /\ kM g' x.aO 0 vs /\ aN g l vs /\ br g' (U.del b) w := by
 obtain ⟨x', cur, vs, rest, k1, k2, k3, k4, k5, k6, k7, k8⟩ := h.box b l hb
 rw [hx] at k1; cases k1
 let g' : Gh := { g with cB := fun q o => if q = x.aO then cur[o]? else g.cB q o }
 have pd : ∀ o, g'.cB x.aO o = cur[o]? := fun o => by show (if x.aO = x.aO then _ else _) = _; rw [if_pos rfl]
 have hold : ∀ q o, q ≠ x.aO -> g'.cB q o = g.cB q o := fun q o hq => by show (if q = x.aO then _ else _) = _; rw [if_neg hq]
 have hle : Gh.Le g g' := ⟨rfl, rfl, fun _ _ h => h, fun q o u hu => by
  rw [hold _ _ (fun e => by subst e; rw [k8] at hu; cases hu)]; exact hu, fun _ _ h => h, fun _ h => h, fun q o hq => hold _ _ (by omega), fun _ _ => rfl⟩
 refine ⟨g', vs, hle, rfl, fun i u hu => by
  have hi : i < vs.length := by
   rcases eZ i vs.length with h | h
   · exact h
   · simp [l9 h] at hu
  rw [bW, pd, <- kB, k5, wx hi]; exact hu, k6, ?_⟩
 obtain ⟨y, hy, _⟩ := St.sK hb
 refine (h.weaken (St.sL U b)).change x.aO k2 hle rfl rfl ⟨rfl, rfl, rfl, cG _⟩ (fun _ _ _ => rfl) hold (fun _ _ => rfl) (fun o u hu => ?_) (fun es c hr => ?_) (fun b' x' p' h1 h2 e => ?_) (h.tl hy hx)
 · rw [pd] at hu
   rw [cell_of_row _ _ _ cur x.e (0, 0) k3]
   exact ⟨hu, k7 u (gK (by rw [kB]; exact hu))⟩
 · have hr : g.bZ x.aO = some (es, c) := hr
   rw [h.mM k3] at hr; cases hr
 · simp only [St.del] at h1
   split at h1
   · cases h1
   · rename_i ne; exact ne (h.apart _ _ _ _ _ _ h1 hy h2 hx e)
theorem br.M5 {g : Gh} {U : St} {w : World} (h : br g U w) {m r : Nat} {kv kv' : List AV × List AV} {es uU : Array MapEntry} {clock uS : Nat} (hm : U.mp m = some kv) (hg : g.mp m = some r) (hh : w.heap[r]? = some (.map es clock))
 (h1 : vJ g kv'.1 kv'.2 uU) (h2 : kg uU uS) :
 br g (U.abf m kv') { w with heap := w.heap.setIfInBounds r (Obj.map uU uS) } := by
 obtain ⟨p, hp, rfl⟩ := Gh.oV.1 hg
 obtain ⟨p', k1, k2, es0, cl0, k3, k4, k5, k6⟩ := h.live m _ (St.oV.1 hm)
 rw [hp] at k1; cases k1
 have aL := (kz.1 hh).1
 have cH : ∀ k, k ≠ p.aO -> (w.heap.setIfInBounds p.aO (Obj.map uU uS))[k]? = w.heap[k]? := fun k hk => Array.getElem?_setIfInBounds_ne (Ne.symm hk)
 have pd : (w.heap.setIfInBounds p.aO (Obj.map uU uS))[p.aO]? = some (Obj.map uU uS) := by simp [aL]
 exact h.rewrite (St.oV.1 hm) hp ⟨rfl, rfl, rfl, by simp⟩ (fun k hk _ => cH k hk) (fun o => by
  cases e : g.cB p.aO o with
  | none => rfl
  | some u => have := (h.cB _ _ _ e).1; simp [World.cell?, hh] at this) k6 ⟨uU, uS, pd, h2, h1, k6⟩
theorem br.shut {g : Gh} {U : St} {w : World} (h : br g U w) {r : Nat} (hr : g.res r = true) : br { g with res := fun x => if x = r then false else g.res x } U { w with heap := w.heap.setIfInBounds r (Obj.deferred none) } := by
 obtain ⟨k2, hh⟩ := h.res r hr
 have cH : ∀ k, k ≠ r -> (w.heap.setIfInBounds r (Obj.deferred none))[k]? = w.heap[k]? := fun k hk => Array.getElem?_setIfInBounds_ne (Ne.symm hk)
 have hl : Gh.sG g { g with res := fun x => if x = r then false else g.res x } := ⟨fun _ _ h => h, fun _ _ _ h => h, fun _ _ h => h⟩
 exact {
  below := h.below.trans ⟨rfl, rfl, rfl, by simp, fun k hk => cH k (by have := h.le; omega)⟩
  le := by simpa using h.le
  cB := fun aO o u hi => by
   have iM := h.cB _ _ _ hi
   have : World.cell? { w with heap := w.heap.setIfInBounds r (Obj.deferred none) } ⟨aO, o, none⟩ = w.cell? ⟨aO, o, none⟩ := by
    simp only [World.cell?]
    rw [cH aO (fun e => by subst e; simp [World.cell?, hh] at iM)]
   rw [this]; exact iM
  bZ := fun r' es c hr => by
   obtain ⟨h1, h2⟩ := h.bZ r' es c hr
   refine ⟨?_, h2⟩
   show (w.heap.setIfInBounds r (Obj.deferred none))[r']? = _
   rw [cH r' (fun e => by subst e; rw [hh] at h1; cases h1)]; exact h1
  live := fun b x hb => by
   obtain ⟨p, h1, h2, h3⟩ := h.live b x hb
   exact ⟨p, h1, h2, h3.frame hl (cH _ (h3.IN hh)) (fun _ => rfl) rfl⟩
  apart := h.apart
  res := fun r' u5 => by
   have u5 : (if r' = r then false else g.res r') = true := u5
   split at u5
   · cases u5
   · rename_i e
     obtain ⟨q1, q2⟩ := h.res r' u5
     exact ⟨q1, by show (w.heap.setIfInBounds r (Obj.deferred none))[r']? = _; rw [cH r' e]; exact q2⟩
  fin := h.fin }
theorem br.UY {g : Gh} {U : St} {w : World} (h : br g U w) : Gh.Le g { g with res := fun x => if x = w.heap.size then true else g.res x } /\ br { g with res := fun x => if x = w.heap.size then true else g.res x } U (w.alloc (.deferred (some []))) := by
 have hl : Gh.sG g { g with res := fun x => if x = w.heap.size then true else g.res x } := ⟨fun _ _ h => h, fun _ _ _ h => h, fun _ _ h => h⟩
 refine ⟨⟨rfl, rfl, fun _ _ h => h, fun _ _ _ h => h, fun _ _ h => h, fun b hb => by show (if _ then _ else _) = _; split <;> simp_all, fun _ _ _ => rfl, fun _ _ => rfl⟩, ?_⟩
 have hs := h.grow (w.grownBy_alloc (.deferred (some [])) none)
 exact {
  below := hs.below
  le := hs.le
  cB := hs.cB
  bZ := hs.bZ
  live := fun b x hb => by
   obtain ⟨p, h1, h2, h3⟩ := hs.live b x hb
   exact ⟨p, h1, h2, h3.frame hl rfl (fun _ => rfl) rfl⟩
  apart := hs.apart
  res := fun r hr => by
   have hr : (if r = w.heap.size then true else g.res r) = true := hr
   split at hr
   · rename_i e; subst e; exact ⟨h.le, heap_alloc_new w _⟩
   · exact hs.res r hr
  fin := hs.fin }
end Go.Rip
namespace Go.Rip
open Go.RowKit
def lh : Value -> Option AV
 | .bool b => some (.bool b)
 | .int k n => some (.int k n)
 | .string s => some (.str s.data.toList)
 | .pointer none => some .bj
 | .slice none 0 0 => some .ak
 | .map none => some .kx
 | .nilFunc => some .jt
 | .nilIface => some .dq
 | _ => none
def Ql : Option (List AV) -> AV
 | some l => .agg l
 | none => .any
def Dk : Value -> AV
 | .agg cs => Ql (cs.toList.mapM lh)
 | .func fn f c => if f.isEmpty && c.isEmpty then .func fn [] [] else .any
 | .tuple vs => if vs.isEmpty then .aU [] else .any
 | v => (lh v).getD .any
def Cq : TypeDesc -> Bool
 | .struct _ | .array _ _ => true
 | _ => false
def nu (P : Program) (t : TypeId) : Option (Bool × Nat) :=
 match P.info? t, P.underlying t with
 | some i, some d => some (Cq d, i.size)
 | _, _ => none
def pa (P : Program) (t : TypeId) : Option (List AV) := ((P.info? t).bind (·.zero)).bind fun z => z.cells.toList.mapM lh
def eO (P : Program) (t : TypeId) : Option (TypeId × Nat) :=
 match P.underlying t with
 | some (.slice e) => match P.info? e with
   | some i => match i.zero with
     | some z => if z.cells.size = i.size /\ 0 < i.size /\ i.bytes <= 32768 /\ z.cells.all (·.oneCell') then some (e, i.size) else none
     | none => none
   | none => none
 | _ => none
def xE (P : Program) (s : TypeId) (f : Nat) : Option Nat :=
 match P.underlying s with
 | some (.struct fields) => match fields[f]? with
   | some x => if P.cellsOf x.type ≠ 0 then some x.offset else none
   | none => none
 | _ => none
def zj (P : Program) (t : TypeId) : Option (List (Nat × Nat)) :=
 match P.underlying t with
 | some (.struct fields) => if fields.all (fun f => (P.info? f.type).isSome) then some (fields.toList.map fun f => (f.offset, P.cellsOf f.type)) else none
 | _ => none
def hU (P : Program) (f : FuncId) : Bool :=
 match P.funcs[f]? with
 | some fn => fn.body.isSome && !(fn.name == "runtime.NumGoroutine")
 | none => false
structure cV where
 P : Program
 xH : Nat -> AV
 fixed : Nat -> Option (Array Value) := fun _ => none
def gZ (C : cV) (g : Gh) : Prop := (∀ i, aB g (C.xH i) (.pointer (some ⟨i, 0, none⟩))) /\ ∀ i cs, C.fixed i = some cs -> i < g.base /\ ∃ t fr, g.w0.heap[i]? = some (.cells cs t fr)
theorem gZ.mono {C : cV} {g g' : Gh} (h : gZ C g) (hl : Gh.Le g g') : gZ C g' := ⟨fun i => (h.1 i).mono hl, fun i cs hi => by rw [hl.base, hl.w0]; exact h.2 i cs hi⟩
structure Env where
 get : Nat -> AV
def Env.put (ρ : Env) (d : Nat) (v : AV) : Env := ⟨fun t => if t = d then v else ρ.get t⟩
def Env.eI (ρ : Env) : Option Nat -> AV -> Env
 | some d, v => ρ.put d v
 | none, _ => ρ
def Env.ev (C : cV) (ρ : Env) : Operand -> AV
 | .tmp t => ρ.get t
 | .const v => Dk v
 | .global g => C.xH g
 | .func f => .func (.func f) [] []
def gr (g : Gh) (ρ : Env) (tmps : Array Value) : Prop := ∀ t, aB g (ρ.get t) (tmps.getD t undef)
theorem gr.mono {g g' : Gh} (h : Gh.Le g g') {ρ : Env} {tmps : Array Value} (hr : gr g ρ tmps) : gr g' ρ tmps := fun t => (hr t).mono h
theorem gr.put {g : Gh} {ρ : Env} {tmps : Array Value} (hr : gr g ρ tmps) {d : Nat} {x : AV} {v : Value} (hd : d < tmps.size) (hx : aB g x v) : gr g (ρ.put d x) (tmps.setIfInBounds d v) := fun t => by
 simp only [Env.put]
 by_cases ht : t = d
 · subst ht
   rw [if_pos rfl]
   simpa [Array.getD, hd] using hx
 · rw [if_neg ht]
   have := hr t
   simp only [Array.getD_eq_getD_getElem?] at this ⊢
   rw [Array.getElem?_setIfInBounds_ne (Ne.symm ht)]
   exact this
theorem yg {g : Gh} {v : Value} {x : AV} (h : lh v = some x) : aB g x v /\ v.oneCell' = true := by
 unfold lh at h
 split at h <;> first
  | (cases h; simp [aB, Value.oneCell']; done)
  | cases h
theorem ey {g : Gh} : ∀ {vs : List Value} {l : List AV}, vs.mapM lh = some l -> aN g l vs /\ ∀ u ∈ vs, u.oneCell' = true
 | [], l, h => by
   simp at h; subst h; simp [aN]
 | v :: vs, l, h => by
   simp only [List.mapM_cons, bind, Option.bind_eq_some_iff, pure, iE] at h
   obtain ⟨x, hx, l', tI, rfl⟩ := h
   obtain ⟨h1, h2⟩ := yg (g := g) hx
   obtain ⟨h3, h4⟩ := ey (g := g) tI
   refine ⟨by simp only [aN]; exact ⟨v, vs, rfl, h1, h3⟩, fun u hu => ?_⟩
   simp only [fC] at hu
   rcases hu with rfl | hu
   · exact h2
   · exact h4 u hu
theorem KH {g : Gh} (v : Value) : aB g ((lh v).getD .any) v := by
 cases h : lh v with
 | none => simp only [Option.getD_none, aB]
 | some x => exact (yg h).1
theorem CB {g : Gh} (v : Value) : aB g (Dk v) v := by
 cases v with
 | agg cs =>
   simp only [Dk]
   cases h : cs.toList.mapM lh with
   | none => simp only [Ql, aB]
   | some l => simp only [Ql, aB]; exact ⟨cs.toList, by simp, (ey (g := g) h).2, (ey h).1⟩
 | func fn f c =>
   simp only [Dk]
   split
   · rename_i h
     simp only [cF, Array.isEmpty_iff] at h
     obtain ⟨rfl, rfl⟩ := h
     simp only [aB]; exact ⟨[], [], rfl, by simp [aN], by simp [aN]⟩
   · simp only [aB]
 | tuple vs =>
   simp only [Dk]
   split
   · rename_i h
     simp only [Array.isEmpty_iff] at h
     subst h
     simp only [aB]; exact ⟨[], rfl, by simp [aN]⟩
   · simp only [aB]
 | _ => simp only [Dk]; exact KH _
theorem sN {C : cV} {g : Gh} (hG : gZ C g) {ρ : Env} {a : Act} (hr : gr g ρ a.tmps) (x : Operand) : aB g (ρ.ev C x) (a.eval x) := by
 cases x with
 | tmp t => exact hr t
 | const v => exact CB v
 | global i => exact hG.1 i
 | func f => simp only [Env.ev, Act.eval, aB]; exact ⟨[], [], rfl, by simp [aN], by simp [aN]⟩
inductive NV where
 | box
 | tok (n : Nat) (l : List AV)
 | ms (n iC : Nat) (e : TypeId)
 | mp
 | it
def NV.at (b : Nat) : NV -> AV
 | .box => .box b 0
 | .tok n l => .vec n (.own b) l
 | .ms n iC e => .ms b 0 n iC e
 | .mp => .mp b
 | .it => .it b
inductive aw where
 | val (v : AV)
 | kW (v : AV) (b : Nat) (x : Live)
 | new (k : NV) (del : Option Nat) (x : Live)
 | kP (b : Nat) (l : List (AV × Live))
 | enter (f : FuncId) (args : List AV)
 | yield (l : Nat) (args : List AV)
 | panic (v : AV)
 | cond (p : Prop) [d : Decidable p] (r : aw)
 | bad
abbrev aw.cJ (l : List AV) : aw := .new .box none (.box l)
abbrev aw.mP (n : Nat) (l : List AV) (del : Option Nat) (t : Tok) : aw := .new (.tok n l) del (.tok t)
abbrev aw.om (n iC : Nat) (e : TypeId) (del : Option Nat) (l : List AV) : aw := .new (.ms n iC e) del (.box l)
abbrev aw.EC : aw := .new .mp none (.mp [] [])
def St.rQ (U : St) : Option Nat -> St
 | some b => U.del b
 | none => U
def aw.Fits (C : cV) (g : Gh) (U : St) : aw -> Result Next -> Prop
 | .val v, res => ∃ u w' g', (res = .ok (.value u) w' \/ (res = .ok .skip w' /\ u = undef)) /\ Gh.Le g g' /\ br g' U w' /\ aB g' v u
 | .kW v b x, res => ∃ u w' g', (res = .ok (.value u) w' \/ (res = .ok .skip w' /\ u = undef)) /\ Gh.Le g g' /\ br g' (U.set b x) w' /\ aB g' v u
 | .new k del x, res => ∃ u w' g' b, res = .ok (.value u) w' /\ (U.rQ del).dB b /\ Gh.Le g g' /\ br g' ((U.rQ del).new b x) w' /\ aB g' (k.at b) u
 | .kP b l, res => ∃ u w' g' v x, res = .ok (.value u) w' /\ (v, x) ∈ l /\ Gh.Le g g' /\ br g' (U.set b x) w' /\ aB g' v u
 | .enter f args, res => ∃ vs w', res = .ok (.enter f (List.toArray vs)) w' /\ br g U w' /\ aN g args vs
 | .yield o args, res => ∃ vs x w w', g.place o = some x /\ res = (Instr.yield x.aO (List.toArray vs)).run C.P w /\ w' = w /\ br g U w /\ aN g args vs
 | .panic v, res => ∃ u w', res = .halt (.panic u) w' /\ br g U w' /\ aB g v u
 | @aw.cond p _ r, res => p -> r.Fits C g U res
 | .bad, _ => True
theorem bo {C : cV} {g : Gh} {U : St} {w : World} {v : AV} {u : Value} (h : br g U w) (hr : aB g v u) : aw.Fits C g U (.val v) (.ok (.value u) w) :=
 ⟨u, w, g, .inl rfl, Gh.Le.refl g, h, hr⟩
def tz (n : Int) : Prop := -9223372036854775808 <= n /\ n <= 9223372036854775807
instance (n : Int) : Decidable (tz n) := inferInstanceAs (Decidable (_ /\ _))
theorem wT {n : Int} (h : tz n) : IntKind.i64.wrap n = n := by
 obtain ⟨h1, h2⟩ := h
 have e : IntKind.i64.wrap n = if n % 18446744073709551616 >= 9223372036854775808 then n % 18446744073709551616 - 18446744073709551616 else n % 18446744073709551616 := by
  simp [IntKind.wrap, IntKind.bits, IntKind.signed]
 rw [e]
 split <;> omega
def vd (P : Program) (t : TypeId) : Bool := match P.underlying t with | some .bool => true | _ => false
def kn (P : Program) (t : TypeId) : Bool := match P.underlying t with | some (.interface _) => true | _ => false
def lV (P : Program) (t : TypeId) : Bool := match P.underlying t with | some (.pointer _) => true | _ => false
def ir (k : IntKind) (n : Int) : aw :=
 match k with
 | .i64 => .cond (tz n) (.val (.int .i64 n))
 | k => .val (.int k (k.wrap n))
inductive FK where
 | i
 | s
 | b
def nG : List FK -> List AV -> List AV -> Option Bool
 | [], [], [] => some true
 | .i :: ks, .int k a :: xs, .int k' b :: ys => if k = k' then (nG ks xs ys).map fun r => (a == b) && r else none
 | .s :: ks, .str a :: xs, .str b :: ys => (nG ks xs ys).map fun r => (a == b) && r
 | .b :: ks, .bool a :: xs, .bool b :: ys => (nG ks xs ys).map fun r => (a == b) && r
 | _, _, _ => none
def Ln (P : Program) (f : Field) (i : Nat) : Option FK :=
 if f.offset = i /\ f.name ≠ "_" then
  match P.underlying f.type with
  | some .bool => some .b
  | some (.int _) => some .i
  | some .string => some .s
  | _ => none
 else none
def uV (P : Program) : List Field -> Nat -> Option (List FK)
 | [], _ => some []
 | f :: fs, i => match Ln P f i, uV P fs (i + 1) with
   | some k, some ks => some (k :: ks)
   | _, _ => none
def JG (P : Program) (t : TypeId) : Option (List FK) :=
 match P.underlying t with
 | some (.struct fields) => if P.stoodInHeld t = false /\ P.eqGuardType P.depth t = false then uV P fields.toList 0 else none
 | _ => none
def HZ (P : Program) (t : TypeId) (a b : List AV) : Option Bool :=
 match JG P t with
 | some ks => nG ks a b
 | none => none
def tp (f : Bool -> AV) : Option Bool -> aw
 | some r => .val (f r)
 | none => .bad
def Jr (P : Program) (op : BinOp) (t : TypeId) (x y : AV) : aw :=
 match op, x, y with
 | .add, .int k a, .int k' b => if k = k' then ir k (a + b) else .bad
 | .sub, .int k a, .int k' b => if k = k' then ir k (a - b) else .bad
 | .mul, .int k a, .int k' b => if k = k' then ir k (a * b) else .bad
 | .quo, .int k a, .int k' b => if k = k' then .cond (b ≠ 0) (ir k (a.tdiv b)) else .bad
 | .rem, .int k a, .int k' b => if k = k' then .cond (b ≠ 0) (.val (.int k (a.tmod b))) else .bad
 | .and, .int k a, .int k' b => if k = k' then .val (.int k (k.wrap (BitVec.ofInt k.bits a &&& BitVec.ofInt k.bits b).toNat)) else .bad
 | .or, .int k a, .int k' b => if k = k' then .val (.int k (k.wrap (BitVec.ofInt k.bits a ||| BitVec.ofInt k.bits b).toNat)) else .bad
 | .eql, .int k a, .int k' b => if k = k' then .val (.bool (a == b)) else .bad
 | .neq, .int k a, .int k' b => if k = k' then .val (.bool (a != b)) else .bad
 | .lss, .int k a, .int k' b => if k = k' then .val (.bool (decide (a < b))) else .bad
 | .leq, .int k a, .int k' b => if k = k' then .val (.bool (decide (a <= b))) else .bad
 | .gtr, .int k a, .int k' b => if k = k' then .val (.bool (decide (a > b))) else .bad
 | .geq, .int k a, .int k' b => if k = k' then .val (.bool (decide (a >= b))) else .bad
 | .eql, .str a, .str b => .val (.bool (a == b))
 | .neq, .str a, .str b => .val (.bool (a != b))
 | .add, .str a, .str b => .cond (a.length + b.length <= 4294967296) (.val (.str (a ++ b)))
 | .eql, .bool a, .bool b => if vd P t = true then .val (.bool (a == b)) else .bad
 | .neq, .bool a, .bool b => if vd P t = true then .val (.bool (a != b)) else .bad
 | .eql, .agg a, .agg b => tp .bool (HZ P t a b)
 | .neq, .agg a, .agg b => tp (fun r => .bool (!r)) (HZ P t a b)
 | .eql, .iface _ _, .dq => if kn P t = true then .val (.bool false) else .bad
 | .neq, .iface _ _, .dq => if kn P t = true then .val (.bool true) else .bad
 | .eql, .bj, .bj => if lV P t = true then .val (.bool true) else .bad
 | .eql, .box _ _, .bj => if lV P t = true then .val (.bool false) else .bad
 | .neq, .bj, .bj => if lV P t = true then .val (.bool false) else .bad
 | .neq, .box _ _, .bj => if lV P t = true then .val (.bool true) else .bad
 | .eql, .cP _, .bj => if lV P t = true then .val (.bool false) else .bad
 | .neq, .cP _, .bj => if lV P t = true then .val (.bool true) else .bad
 | _, _, _ => .bad
def isLit : Operand -> Bool
 | .const _ => true
 | _ => false
def EZ (P : Program) (op : BinOp) (t : TypeId) (lit : Bool) (x y : AV) : aw :=
 match op, x, y with
 | .eql, .dq, .dq => if kn P t = true /\ lit = true then .val (.bool true) else .bad
 | .neq, .dq, .dq => if kn P t = true /\ lit = true then .val (.bool false) else .bad
 | op, x, y => Jr P op t x y
end Go.Rip
namespace Go.Rip
open Go.RowKit
def AV.scalar : AV -> Bool
 | .agg _ | .aU _ | .any => false
 | _ => true
def aC : AV -> List AV
 | .agg l => l
 | v => [v]
theorem C7 {g : Gh} {x : AV} {v : Value} (h : aB g x v) (hs : x.scalar = true) : v.oneCell' = true := by
 cases x <;> simp only [AV.scalar, bH] at hs <;> simp only [aB] at h
 all_goals first
  | (subst h; rfl)
  | (obtain ⟨_, _, rfl⟩ := h; rfl)
  | (obtain ⟨_, _, _, rfl, _⟩ := h; rfl)
  | (obtain ⟨_, _, _, _, rfl, _⟩ := h; rfl)
  | (obtain ⟨_, _, _, rfl, _⟩ := h; rfl)
  | (obtain ⟨_, _, rfl, _⟩ := h; rfl)
  | (obtain ⟨_, rfl, _⟩ := h; rfl)
  | (obtain ⟨_, _, _, _, rfl, _⟩ := h; rfl)
def AV.cN : AV -> Bool
 | .aU _ | .any => false
 | _ => true
theorem xB {g : Gh} {x : AV} {v : Value} (h : aB g x v) (hs : x.cN = true) : aN g (aC x) v.cells.toList /\ ∀ u ∈ v.cells.toList, u.oneCell' = true := by
 by_cases ha : ∃ l, x = .agg l
 · obtain ⟨l, rfl⟩ := ha
   simp only [aB] at h
   obtain ⟨vs, rfl, h1, h2⟩ := h
   exact ⟨by simpa [aC, Value.cells] using h2, by simpa [Value.cells] using h1⟩
 · have Tp : x.scalar = true := by cases x <;> simp_all [AV.cN, AV.scalar]
   have h1 := C7 h Tp
   have hc : aC x = [x] := by cases x <;> simp_all [aC]
   have hv : v.cells = #[v] := by cases v <;> simp_all [Value.cells, Value.oneCell']
   rw [hc, hv]
   exact ⟨by simp only [aN]; exact ⟨v, [], rfl, h, rfl⟩, by simpa using h1⟩
def lP (U : St) : AV -> Option (List AV)
 | .box b off => (U.box b).map (·.drop off)
 | .cP l => some l
 | _ => none
theorem rh {g : Gh} {U : St} {w : World} (h : br g U w) {p : AV} {v : Value} {l : List AV} (hp : aB g p v) (hl : lP U p = some l) :
 ∃ a vs, v = .pointer (some a) /\ a.spot = none /\ aN g l vs /\ ∀ j u, vs[j]? = some u -> w.cell? (a.add j) = some u /\ u.oneCell' = true := by
 have km : ∀ aO off j, (⟨aO, off, none⟩ : Addr).add j = ⟨aO, off + j, none⟩ := fun aO off j => by unfold Addr.add; split <;> simp_all
 cases p <;> simp only [lP, reduceCtorEq] at hl
 · rename_i b off
   cases hb : U.box b with
   | none => simp [hb] at hl
   | some l0 =>
     simp [hb] at hl
     subst hl
     simp only [aB] at hp
     obtain ⟨x, hx, rfl⟩ := hp
     obtain ⟨x', cur, vs, rest, k1, k2, k3, k4, k5, k6, k7, k8⟩ := h.box b l0 hb
     rw [hx] at k1; cases k1
     refine ⟨⟨x.aO, off, none⟩, vs.drop off, rfl, rfl, k6.drop off, fun j u hu => ?_⟩
     rw [km, cell_of_row _ _ _ cur x.e (0, 0) k3]
     rw [List.getElem?_drop] at hu
     have aL : off + j < vs.length := by
      rcases eZ (off + j) vs.length with h | h
      · exact h
      · simp [l9 h] at hu
     have : cur[off + j]? = some u := by rw [<- kB, k5, wx aL]; exact hu
     exact ⟨this, k7 u (gK (by rw [kB]; exact this))⟩
 · cases hl
   simp only [aB] at hp
   obtain ⟨aO, off, vs, rfl, hi, hr⟩ := hp
   exact ⟨⟨aO, off, none⟩, vs, rfl, rfl, hr, fun j u hu => by rw [km]; exact h.cB _ _ _ (hi j u hu)⟩
def gP : List AV -> aw
 | x :: _ => .val x
 | [] => .bad
def tO (P : Program) (t : TypeId) (p : AV) (U : St) : aw :=
 match nu P t, lP U p with
 | some (true, sz), some l => .cond (sz <= l.length) (.val (.agg (l.take sz)))
 | some (false, _), some l => gP l
 | _, _ => .bad
theorem n0 {P : Program} {t : TypeId} {b : Bool} {sz : Nat} (h : nu P t = some (b, sz)) :
 ∃ i d, P.info? t = some i /\ P.underlying t = some d /\ Cq d = b /\ i.size = sz := by
 unfold nu at h
 split at h
 · rename_i i d hi hd
   simp only [iE, lq] at h
   exact ⟨i, d, hi, hd, h.1, h.2⟩
 · cases h
theorem kU {P : Program} {t : TypeId} {d : TypeDesc} (h : P.underlying t = some d) (w : World) : (isAgg t).run P w = .ok (Cq d) w := by
 simp only [isAgg, cA, run_underlying h, cK]
 cases d <;> rfl
theorem ez {P : Program} {t : TypeId} {i : TypeInfo} (h : P.info? t = some i) (w : World) : (sizeOf t).run P w = .ok i.size w := by
 simp [sizeOf, typeInfo, h]
section
variable {C : cV} {g : Gh} {U : St} {w : World}
theorem Kg (h : br g U w) {t : TypeId} {p : AV} {v : Value} (hp : aB g p v) : aw.Fits C g U (tO C.P t p U) ((do let x <- Instr.loadAt t v; pure (Next.value x) : Sem Next).run C.P w) := by
 unfold tO
 split
 · rename_i b sz l hv hl
   obtain ⟨i, d, hi, hd, hb, fi⟩ := n0 hv
   obtain ⟨a, vs, rfl, ha, hr, hc⟩ := rh h hp hl
   intro hle
   have hlen := hr.length
   have gJ : (loadCells a (vs.take sz).length).run C.P w = .ok (vs.take sz).toArray w :=
    run_loadCells_list (P := C.P) w a (vs.take sz) fun j u hu => by
     rw [List.getElem?_take] at hu
     split at hu
     · exact (hc j u hu).1
     · cases hu
   have rE : (vs.take sz).length = sz := by simp; omega
   rw [rE] at gJ
   simp only [Instr.loadAt, Instr.sureAddr, loadVar, cA, cQ, cK, kU hd, hb, if_true, ez hi, fi, gJ, fm]
   have Lu : ∀ u ∈ vs.take sz, u.oneCell' = true := fun u hu => by
    obtain ⟨j, hj⟩ := List.getElem?_of_mem hu
    rw [List.getElem?_take] at hj
    split at hj
    · exact (hc j u hj).2
    · cases hj
   exact bo h (by simp only [aB]; exact ⟨_, rfl, Lu, hr.take sz⟩)
 · rename_i b sz l hv hl
   obtain ⟨i, d, hi, hd, hb, fi⟩ := n0 hv
   obtain ⟨a, vs, rfl, ha, hr, hc⟩ := rh h hp hl
   cases l with
   | nil => trivial
   | cons x xs =>
     simp only [aN] at hr
     obtain ⟨u, us, rfl, h1, h2⟩ := hr
     have := (hc 0 u rfl).1
     have h0 : a.add 0 = a := by simp [Addr.add]
     rw [h0] at this
     simp only [Instr.loadAt, Instr.sureAddr, loadVar, cA, cQ, cK, kU hd, hb, bH, if_false, run_load, this, fm]
     exact bo h h1
 · trivial
def az (l : List AV) (off : Nat) (cs : List AV) : List AV := l.take off ++ cs ++ l.drop (off + cs.length)
def GO (P : Program) (t : TypeId) (p v : AV) (U : St) : aw :=
 match nu P t, p with
 | some (_, sz), .box b off => match U.box b with
   | some l => .cond (v.cN = true /\ (aC v).length = sz /\ off + sz <= l.length) (.kW (.aU []) b (.box (az l off (aC v))))
   | none => .bad
 | _, _ => .bad
theorem vw (h : br g U w) {b off : Nat} {l : List AV} {x : Place} (hb : U.box b = some l) (hx : g.box b = some x) {cs : List AV} {us : List Value} (hr : aN g cs us) (h1 : ∀ u ∈ us, u.oneCell' = true)
 (Al : off + cs.length <= l.length) : ∃ w', (storeCells ⟨x.aO, off, none⟩ us).run C.P w = .ok () w' /\ br g (U.cw b (az l off cs)) w' := by
 obtain ⟨x', cur, vs, rest, k1, k2, k3, k4, k5, k6, k7, k8⟩ := h.box b l hb
 rw [hx] at k1; cases k1
 have Bu := hr.length
 have rE := k6.length
 have fi : cur.size = vs.length + rest.length := by rw [<- rU, k5, eQ]
 have gJ := run_storeCells_at C.P x.aO off x.e us 0 cur w k3 (by omega) h1
 simp only [Nat.add_zero] at gJ
 refine ⟨_, gJ, ?_⟩
 have e : cur.toList.take off ++ us ++ cur.toList.drop (off + us.length) = (vs.take off ++ us ++ vs.drop (off + us.length)) ++ rest := by
  rw [k5, List.take_append_of_le_length (by omega), List.drop_append_of_le_length (by omega)]
  simp
 refine h.setRow hb hx _ (vs.take off ++ us ++ vs.drop (off + us.length)) rest ?_ (by simpa using e) ?_ ?_
 · rw [<- rU]
   have := congrArg List.length e
   simp only [eQ, List.length_take, List.length_drop] at this
   simp only [eQ, List.length_take, List.length_drop, rU] at this ⊢
   omega
 · unfold az
   rw [Bu]
   exact ((k6.take off).append hr).append (k6.drop _)
 · intro u hu
   simp only [gg] at hu
   rcases hu with (hu | hu) | hu
   · exact k7 u (List.mem_of_mem_take hu)
   · exact h1 u hu
   · exact k7 u (List.mem_of_mem_drop hu)
theorem HM (h : br g U w) {t : TypeId} {p x : AV} {v u : Value} (hp : aB g p v) (hx : aB g x u) : aw.Fits C g U (GO C.P t p x U) ((do Instr.storeAt t v u; pure Next.skip : Sem Next).run C.P w) := by
 unfold GO
 split
 · rename_i bb sz b off hv
   split
   · rename_i l hb
     rintro ⟨h1, h2, h3⟩
     obtain ⟨i, d, hi, hd, _, fi⟩ := n0 hv
     obtain ⟨zC, zD⟩ := xB hx h1
     simp only [aB] at hp
     obtain ⟨y, hy, rfl⟩ := hp
     obtain ⟨w', gJ, hs⟩ := vw (C := C) h hb hy zC zD (by rw [h2]; exact h3)
     have hlen : u.cells.size = sz := by rw [<- rU, zC.length]; exact h2
     simp only [Instr.storeAt, Instr.sureAddr, storeVar, cA, cQ, cK, ez hi, fi, hlen, ne_eq, not_true_eq_false, if_false, fm, gJ]
     exact ⟨undef, w', g, .inr ⟨rfl, rfl⟩, Gh.Le.refl g, hs, by simp only [aB]; exact ⟨[], rfl, by simp [aN]⟩⟩
   · trivial
 · trivial
def EW (t : TypeId) : List AV -> aw
 | [.bj, .ak] => .new .box none (.zU t [.bj, .ak])
 | l => .cJ l
def EV (P : Program) (t : TypeId) : aw :=
 match pa P t with
 | some l => EW t l
 | none => .bad
theorem mJ {P : Program} {t : TypeId} {l : List AV} (hz : pa P t = some l) : ∃ i z, P.info? t = some i /\ i.zero = some z /\ z.cells.toList.mapM lh = some l := by
 unfold pa at hz
 cases hi : P.info? t with
 | none => simp [hi] at hz
 | some i =>
   cases sY : i.zero with
   | none => simp [hi, sY] at hz
   | some z => simp [hi, sY] at hz; exact ⟨i, z, rfl, sY, hz⟩
theorem gh {P : Program} {t : TypeId} {i : TypeInfo} {z : Value} (hi : P.info? t = some i) (hz : i.zero = some z) (w : World) : (zeroValue t).run P w = .ok z w := by
 simp [zeroValue, typeInfo, hi, hz]
theorem zO (h : br g U w) (e : TypeId) {l : List AV} {cur : Array Value} (hl : aN g l cur.toList) (h1 : ∀ u ∈ cur.toList, u.oneCell' = true) :
 aw.Fits C g U (.cJ l) (.ok (.value (.pointer (some ⟨w.heap.size, 0, none⟩))) (w.alloc (.cells cur e))) := by
 obtain ⟨b, g', hb, hle, hx, hs⟩ := h.cJ e cur cur.toList [] l (by simp) hl h1
 exact ⟨_, _, g', b, rfl, hb, hle, hs, by simp only [NV.at, aB]; exact ⟨_, hx, rfl⟩⟩
theorem Hb (h : br g U w) {t : TypeId} : aw.Fits C g U (EV C.P t) ((do let x <- Instr.alloc t true (.tuple #[]); pure (Next.value x) : Sem Next).run C.P w) := by
 unfold EV
 split
 · rename_i l hz
   obtain ⟨i, z, hi, sY, hm⟩ := mJ hz
   obtain ⟨h1, h2⟩ := ey (g := g) hm
   simp only [Instr.alloc, newVar, newRow, cA, cQ, cK, gh hi sY, run_newObj]
   unfold EW
   split
   · have hlen := h1.length
     obtain ⟨b, g', hb, hle, hx, hs⟩ := h.tc (.cells z.cells t) t z.cells.size (.zU t [.bj, .ak]) fun g' hle hi hm => ⟨rfl, by simpa using hlen, z.cells, z.cells.toList, [], heap_alloc_new w _, rfl, by simp, h1.mono hle, h2, hi⟩
     exact ⟨_, _, g', b, rfl, hb, hle, hs, by simp only [NV.at, aB]; exact ⟨_, hx, rfl⟩⟩
   · exact zO h t h1 h2
 · trivial
def jb (v : AV) : aw := .cond (v.cN = true) (.cJ (aC v))
theorem La (h : br g U w) {t : TypeId} {x : AV} {u : Value} (hx : aB g x u) : aw.Fits C g U (jb x) ((do let y <- Instr.box t u; pure (Next.value y) : Sem Next).run C.P w) := by
 intro hl
 obtain ⟨h1, h2⟩ := xB hx hl
 simp only [Instr.box, newVar, newRow, cA, cQ, cK, run_newObj]
 exact zO h t h1 h2
def aI (x : AV) : aw :=
 match x with
 | .box _ _ | .cP _ | .func (.func _) _ _ => .val x
 | _ => .bad
def vO (P : Program) (s : TypeId) (p : AV) (f : Nat) : aw :=
 match xE P s f, p with
 | some o, .box b off => .val (.box b (off + o))
 | some o, .cP l => .val (.cP (l.drop o))
 | _, _ => .bad
theorem Hl {P : Program} {s : TypeId} {f o : Nat} (h : xE P s f = some o) : ∃ fs x, P.underlying s = some (.struct fs) /\ fs[f]? = some x /\ P.cellsOf x.type ≠ 0 /\ x.offset = o := by
 unfold xE at h
 split at h
 · rename_i fs hu
   split at h
   · rename_i x hx
     split at h
     · rename_i hc; cases h; exact ⟨fs, x, hu, hx, hc, rfl⟩
     · cases h
   · cases h
 · cases h
theorem vV {aO off n : Nat} {vs : List Value} (h : kM g aO off vs) : kM g aO (off + n) (vs.drop n) := fun i u hu => by
 rw [List.getElem?_drop] at hu
 have := h (n + i) u hu
 rwa [Nat.add_assoc]
theorem Bb (h : br g U w) {s f : Nat} {p : AV} {v : Value} (hp : aB g p v) : aw.Fits C g U (vO C.P s p f) ((do let x <- Instr.fieldAt s v f; pure (Next.value x) : Sem Next).run C.P w) := by
 have km : ∀ aO off j, (⟨aO, off, none⟩ : Addr).add j = ⟨aO, off + j, none⟩ := fun aO off j => by unfold Addr.add; split <;> simp_all
 have key : ∀ (o : Nat) (aO off : Nat), xE C.P s f = some o -> v = .pointer (some ⟨aO, off, none⟩) ->
  ((do let x <- Instr.fieldAt s v f; pure (Next.value x) : Sem Next).run C.P w) = .ok (.value (.pointer (some ⟨aO, off + o, none⟩))) w := fun o aO off ho hv => by
  obtain ⟨fs, x, hu, hx, hc, rfl⟩ := Hl ho
  subst hv
  obtain ⟨i, hi, hic⟩ : ∃ i, C.P.info? x.type = some i /\ i.size = C.P.cellsOf x.type := by
   cases hi : C.P.info? x.type with
   | none => simp [Program.cellsOf, hi] at hc
   | some i => exact ⟨i, rfl, by simp [Program.cellsOf, hi]⟩
  simp only [Instr.fieldAt, cA, cQ, cK, run_underlying hu, hx, Instr.sureAddr, fieldPlace, ez hi, hic, if_neg hc, fm, km]
 unfold vO
 split
 · rename_i o b off ho
   simp only [aB] at hp
   obtain ⟨x, hx, hv⟩ := hp
   rw [key o x.aO off ho hv]
   exact bo h (by simp only [aB]; exact ⟨x, hx, rfl⟩)
 · rename_i o l ho
   simp only [aB] at hp
   obtain ⟨aO, off, vs, hv, hi, hr⟩ := hp
   rw [key o aO off ho hv]
   exact bo h (by simp only [aB]; exact ⟨aO, off + o, vs.drop o, rfl, vV hi, hr.drop o⟩)
 · trivial
theorem ik {P : Program} {t e : TypeId} {sz : Nat} (h : eO P t = some (e, sz)) :
 ∃ i z, P.underlying t = some (.slice e) /\ P.info? e = some i /\ i.zero = some z /\ z.cells.size = sz /\ i.size = sz /\ 0 < sz /\ i.bytes <= 32768 /\ (∀ u ∈ z.cells.toList, u.oneCell' = true) := by
 unfold eO at h
 split at h
 · rename_i e' hu
   split at h
   · rename_i i hi
     split at h
     · rename_i z hz
       split at h
       · rename_i hc
         simp only [iE, lq] at h
         obtain ⟨rfl, rfl⟩ := h
         refine ⟨i, z, hu, hi, hz, hc.1, rfl, hc.2.1, hc.2.2.1, fun u hu => ?_⟩
         have := hc.2.2.2
         rw [Array.all_eq_true_iff_forall_mem] at this
         exact this u (by simpa using hu)
       · cases h
     · cases h
   · cases h
 · cases h
def uh (P : Program) (t : TypeId) : Option (Nat × TypeId × Nat) :=
 match P.underlying t with
 | some (.array n e) => match P.info? e with
   | some i => some (n, e, i.size)
   | none => none
 | _ => none
theorem tA {P : Program} {t e : TypeId} {n sz : Nat} (h : uh P t = some (n, e, sz)) : ∃ i, P.underlying t = some (.array n e) /\ P.info? e = some i /\ i.size = sz := by
 unfold uh at h
 split at h
 · rename_i n' e' hu
   split at h
   · rename_i i hi
     simp only [iE, lq] at h
     obtain ⟨rfl, rfl, rfl⟩ := h
     exact ⟨i, hu, hi, rfl⟩
   · cases h
 · cases h
def K5 (P : Program) (t : TypeId) (x i : AV) : aw :=
 match uh P t, x, i with
 | some (n, _, sz), .cP l, .int _ j => .cond (0 <= j /\ j < n) (.val (.cP (l.drop (j.toNat * sz))))
 | some (n, _, sz), .box b off, .int _ j => .cond (0 <= j /\ j < n) (.val (.box b (off + j.toNat * sz)))
 | _, _, _ => .bad
def vW (P : Program) (t : TypeId) (x i : AV) : aw :=
 match eO P t, x, i with
 | none, x, i => K5 P t x i
 | some (_, sz), .vec n _ l, .int _ j => .cond (0 <= j /\ j < n) (.val (.cP (l.drop (j.toNat * sz))))
 | some (_, sz), .ms b off n iC _, .int _ j => .cond (0 <= j /\ j < n /\ iC = sz) (.val (.box b (off + j.toNat * sz)))
 | _, _, _ => .bad
theorem BF (h : br g U w) {t : TypeId} {x y : AV} {v u : Value} (hx : aB g x v) (hy : aB g y u) : aw.Fits C g U (vW C.P t x y) ((do let x <- Instr.indexAt t v u; pure (Next.value x) : Sem Next).run C.P w) := by
 have km : ∀ aO off j, (⟨aO, off, none⟩ : Addr).add j = ⟨aO, off + j, none⟩ := fun aO off j => by unfold Addr.add; split <;> simp_all
 have key : ∀ (e : TypeId) (sz : Nat) (aO off n c : Nat) (k : IntKind) (j : Int), eO C.P t = some (e, sz) -> v = .slice (some ⟨aO, off, none⟩) n c -> u = .int k j -> 0 <= j -> j < n ->
  ((do let x <- Instr.indexAt t v u; pure (Next.value x) : Sem Next).run C.P w) = .ok (.value (.pointer (some ⟨aO, off + j.toNat * sz, none⟩))) w := fun e sz aO off n c k j ho hv hu h0 h1 => by
  obtain ⟨i, z, oB, hi, hz, _, fi, _⟩ := ik ho
  subst hv hu
  simp only [Instr.indexAt, asIntOf, cA, cQ, cK, run_underlying oB, h0, h1, and_self, if_true, fm, ez hi, fi, km]
 unfold vW
 split
 · unfold K5
   split
   · rename_i n e sz l k j ha
     rintro ⟨h0, h1⟩
     obtain ⟨i, oB, hi, fi⟩ := tA ha
     simp only [aB] at hx hy
     obtain ⟨aO, off, vs, rfl, iM, hr⟩ := hx
     subst hy
     simp only [Instr.indexAt, asIntOf, cA, cQ, cK, run_underlying oB, Instr.sureAddr, h0, h1, and_self, if_true, fm, ez hi, fi, km]
     exact bo h (by simp only [aB]; exact ⟨aO, _, _, rfl, vV iM, hr.drop _⟩)
   · rename_i n e sz b off k j ha
     rintro ⟨h0, h1⟩
     obtain ⟨i, oB, hi, fi⟩ := tA ha
     simp only [aB] at hx hy
     obtain ⟨x, hb, rfl⟩ := hx
     subst hy
     simp only [Instr.indexAt, asIntOf, cA, cQ, cK, run_underlying oB, Instr.sureAddr, h0, h1, and_self, if_true, fm, ez hi, fi, km]
     exact bo h (by simp only [aB]; exact ⟨x, hb, rfl⟩)
   · trivial
 · rename_i e sz n cap l k j hs
   rintro ⟨h0, h1⟩
   simp only [aB] at hx hy
   obtain ⟨aO, off, c, vs, hv, _, _, _, hi, hr⟩ := hx
   rw [key e sz aO off n c k j hs hv hy h0 h1]
   exact bo h (by simp only [aB]; exact ⟨aO, _, _, rfl, vV hi, hr.drop _⟩)
 · rename_i e sz b off n iC e' k j hs
   rintro ⟨h0, h1, rfl⟩
   simp only [aB] at hx hy
   obtain ⟨x, c, hb, hv, _⟩ := hx
   rw [key e iC x.aO off n c k j hs hv hy h0 h1]
   exact bo h (by simp only [aB]; exact ⟨x, hb, rfl⟩)
 · trivial
def mN (P : Program) (t : TypeId) : Bool := match P.underlying t with | some .string => true | _ => false
def BE (P : Program) (t : TypeId) (x i : AV) : aw :=
 match x, i with
 | .str s, .int _ j => if mN P t = true then .cond (0 <= j /\ j < s.length) (.val (.int .u8 (s.getD j.toNat 0).toNat)) else .bad
 | .agg l, .int _ j => match uh P t with
   | some (n, e, sz) => match nu P e with
     | some (false, _) => .cond (0 <= j /\ j < n) (gP (l.drop (j.toNat * sz)))
     | some (true, k) => .cond (0 <= j /\ j < n /\ k = sz /\ j.toNat * sz + sz <= l.length) (.val (.agg ((l.drop (j.toNat * sz)).take sz)))
     | none => .bad
   | none => .bad
 | _, _ => .bad
theorem oT {P : Program} {t : TypeId} (h : mN P t = true) : P.underlying t = some .string := by
 unfold mN at h
 split at h
 · assumption
 · cases h
theorem Hr (h : br g U w) {t : TypeId} {x y : AV} {v u : Value} (hx : aB g x v) (hy : aB g y u) : aw.Fits C g U (BE C.P t x y) ((do let x <- Instr.index t v u; pure (Next.value x) : Sem Next).run C.P w) := by
 unfold BE
 split
 · rename_i s k j
   split
   · rename_i ht
     rintro ⟨h0, h1⟩
     simp only [aB] at hx hy
     subst hx hy
     have hj : j.toNat < s.length := by omega
     have e : (ByteArray.mk s.toArray)[j.toNat]? = some (s.getD j.toNat 0) := by
      have fi : (ByteArray.mk s.toArray).size = s.length := by simp [ByteArray.size]
      rw [getElem?_pos _ _ (by rw [fi]; exact hj)]
      simp [uC, jQ hj]
      rfl
     simp only [Instr.index, asIntOf, cA, cQ, cK, run_underlying (oT ht), h0, if_true, e]
     exact bo h (by simp only [aB])
   · trivial
 · rename_i l k j
   split
   · rename_i n e sz ha
     obtain ⟨i, oB, hi, fi⟩ := tA ha
     simp only [aB] at hx hy
     subst hy
     obtain ⟨vs, rfl, Lu, hr⟩ := hx
     split
     · rename_i sz' hv
       obtain ⟨i', d, iM, hd, hb, _⟩ := n0 hv
       rintro ⟨h0, h1⟩
       cases hl : l.drop (j.toNat * sz) with
       | nil => trivial
       | cons z zs =>
         have hz : l[j.toNat * sz]? = some z := by
          have := congrArg (fun l => l[0]?) hl
          simpa using this
         obtain ⟨u, LZ, YG⟩ := hr.get hz
         have e1 : vs.toArray[j.toNat * sz]? = some u := by simpa using LZ
         simp only [Instr.index, asIntOf, cA, cQ, cK, run_underlying oB, h0, h1, and_self, if_true, fm, ez hi, fi, part, kU hd, hb, bH, if_false, e1]
         exact bo h YG
     · rename_i k' hv
       obtain ⟨i', d, iM, hd, hb, hk⟩ := n0 hv
       rw [hi] at iM; cases iM
       rintro ⟨h0, h1, rfl, h2⟩
       simp only [Instr.index, asIntOf, cA, cQ, cK, run_underlying oB, h0, h1, and_self, if_true, fm, ez hi, fi, part, kU hd, hb]
       refine bo h ?_
       simp only [aB]
       refine ⟨(vs.drop (j.toNat * k')).take k', ?_, fun u hu => Lu u (List.mem_of_mem_drop (List.mem_of_mem_take hu)), (hr.drop _).take _⟩
       congr 1
       apply Array.ext'
       simp [List.extract_eq_take_drop]
     · trivial
   · trivial
 · trivial
end
end Go.Rip
namespace Go.Rip
open Go.RowKit
section
variable {C : cV} {g : Gh} {U : St} {w : World}
theorem qn {P : Program} {d : Nat} : ∀ (fs : List Field) (i : Nat) (ks : List FK) (xs ys : List AV) (us vs : Array Value) (r : Bool), uV P fs i = some ks -> nG ks xs ys = some r ->
 aN g xs (us.toList.drop i) -> aN g ys (vs.toList.drop i) -> (Op.eqFields (d + 1) us vs fs).run P w = .ok r w
 | [], i, ks, xs, ys, us, vs, r, hk, he, _, _ => by
   simp only [uV, iE] at hk
   subst hk
   cases xs <;> cases ys <;> simp only [nG, reduceCtorEq, iE] at he
   subst he
   simp [Op.eqFields]
 | f :: fs, i, ks, xs, ys, us, vs, r, hk, he, hx, hy => by
   simp only [uV] at hk
   split at hk
   · rename_i k ks' hf LI
     simp only [iE] at hk
     subst hk
     unfold Ln at hf
     split at hf
     · rename_i hc
       obtain ⟨ho, hn⟩ := hc
       have Tj : ∀ (us : Array Value) (u : Value), us[i]? = some u -> ∀ dd, P.underlying f.type = some dd -> Cq dd = false -> (part f.type us f.offset).run P w = .ok u w := fun us u hu dd hd ha => by
        simp only [part, cA, kU hd, cK, ha, bH, if_false, ho, hu, cQ, fm]
       have oh : ∀ {xs : List AV} {x : AV} {us : Array Value}, aN g (x :: xs) (us.toList.drop i) -> ∃ u, us[i]? = some u /\ aB g x u /\ aN g xs (us.toList.drop (i + 1)) := fun {xs x us} h => by
        simp only [aN] at h
        obtain ⟨u, rest, e, h1, h2⟩ := h
        refine ⟨u, ?_, h1, ?_⟩
        · have := congrArg (fun l => l[0]?) e
          simpa using this
        · have := congrArg (List.drop 1) e
          rw [List.drop_drop] at this
          rw [this]; simpa using h2
       have xN : ∀ (u v : Value) (q r' : Bool) (dd : TypeDesc), us[i]? = some u -> vs[i]? = some v -> P.underlying f.type = some dd -> Cq dd = false -> (Op.equalIn (d + 1) f.type u v).run P w = .ok q w ->
        (Op.eqFields (d + 1) us vs fs).run P w = .ok r' w -> (Op.eqFields (d + 1) us vs (f :: fs)).run P w = .ok (q && r') w := fun u v q r' dd hu hv hd ha heq ab2 => by
        simp only [Op.eqFields, if_pos hn, cA, Tj us u hu dd hd ha, Tj vs v hv dd hd ha, cK, heq, fm, cQ, ab2]
        cases q <;> simp
       split at hf
       · rename_i hd
         cases hf
         cases xs with
         | nil => simp [nG] at he
         | cons x xs =>
           cases ys with
           | nil => cases x <;> simp [nG] at he
           | cons y ys =>
             cases x <;> cases y <;> simp only [nG, reduceCtorEq] at he
             cases hr : nG ks' xs ys with
             | none => simp [hr] at he
             | some r' =>
               simp [hr] at he
               subst he
               obtain ⟨u, hu, DH, jF⟩ := oh hx
               obtain ⟨v, hv, DI, L9⟩ := oh hy
               simp only [aB] at DH DI
               subst DH DI
               have := xN _ _ _ r' _ hu hv hd rfl (run_equalIn_bool' w d f.type _ _ hd) (qn fs (i + 1) ks' xs ys us vs r' LI hr jF L9)
               rw [this]
       · rename_i kk hd
         cases hf
         cases xs with
         | nil => simp [nG] at he
         | cons x xs =>
           cases ys with
           | nil => cases x <;> simp [nG] at he
           | cons y ys =>
             cases x <;> cases y <;> simp only [nG, reduceCtorEq] at he
             split at he
             · rename_i e; subst e
               cases hr : nG ks' xs ys with
               | none => simp [hr] at he
               | some r' =>
                 simp [hr] at he
                 subst he
                 obtain ⟨u, hu, DH, jF⟩ := oh hx
                 obtain ⟨v, hv, DI, L9⟩ := oh hy
                 simp only [aB] at DH DI
                 subst DH DI
                 have := xN _ _ _ r' _ hu hv hd rfl (run_equalIn_int w d f.type _ _ _ _ hd) (qn fs (i + 1) ks' xs ys us vs r' LI hr jF L9)
                 rw [this]
             · cases he
       · rename_i hd
         cases hf
         cases xs with
         | nil => simp [nG] at he
         | cons x xs =>
           cases ys with
           | nil => cases x <;> simp [nG] at he
           | cons y ys =>
             cases x <;> cases y <;> simp only [nG, reduceCtorEq] at he
             cases hr : nG ks' xs ys with
             | none => simp [hr] at he
             | some r' =>
               simp [hr] at he
               subst he
               obtain ⟨u, hu, DH, jF⟩ := oh hx
               obtain ⟨v, hv, DI, L9⟩ := oh hy
               simp only [aB] at DH DI
               subst DH DI
               have := xN _ _ _ r' _ hu hv hd rfl (run_equalIn_string w d f.type _ _ hd) (qn fs (i + 1) ks' xs ys us vs r' LI hr jF L9)
               rw [this]
               simp [ByteArray.toList_eq]
       · cases hf
     · cases hf
   · cases hk
theorem B1 {P : Program} {t : TypeId} {a b : List AV} {us vs : List Value} {r : Bool} (h : HZ P t a b = some r) (ha : aN g a us) (hb : aN g b vs) :
 (Op.equalIn 10000 t (.agg us.toArray) (.agg vs.toArray)).run P w = .ok r w /\ P.eqGuardType P.depth t = false := by
 unfold HZ at h
 split at h
 · rename_i ks lS
   unfold JG at lS
   split at lS
   · rename_i fs hu
     split at lS
     · rename_i hc
       have hfo : P.fieldsOf t = fs := by simp [Program.fieldsOf, hu]
       refine ⟨?_, hc.2⟩
       rw [run_equalIn_struct w 9999 t _ _ (by rw [hfo]; exact hu) hc.1, hfo]
       exact qn (d := 9998) fs.toList 0 ks a b _ _ r lS h (by simpa using ha) (by simpa using hb)
     · cases lS
   · cases lS
 · cases h
theorem sa {P : Program} (w : World) (d : Nat) (t : TypeId) (ms : Array (String × TypeId)) (h : P.underlying t = some (.interface ms)) (a : TypeId) (b : Value) : (Op.equalIn (d + 1) t (.iface a b) .nilIface).run P w = .ok false w := by
 simp [Op.equalIn, run_underlying h]
theorem ju {P : Program} (w : World) (d : Nat) (t e : TypeId) (h : P.underlying t = some (.pointer e)) (a : Option Addr) : (Op.equalIn (d + 1) t (.pointer a) (.pointer none)).run P w = .ok a.isNone w := by
 cases a <;> simp [Op.equalIn, run_underlying h]
theorem qo {P : Program} (w : World) (d : Nat) (t : TypeId) (ms : Array (String × TypeId)) (h : P.underlying t = some (.interface ms)) : (Op.equalIn (d + 1) t .nilIface .nilIface).run P w = .ok true w := by
 simp [Op.equalIn, run_underlying h]
theorem K7 (h : br g U w) {op : BinOp} {t : TypeId} {x y : AV} {u v : Value} (X Y : Operand) (hx : aB g x u) (hy : aB g y v) :
 aw.Fits C g U (Jr C.P op t x y) ((do let r <- (do eqGuard op t X Y u v; binOp op t u v : Sem Value); pure (Next.value r) : Sem Next).run C.P w) := by
 have hI : ∀ (k : IntKind) (n : Int), aw.Fits C g U (ir k n) (.ok (.value (.int k (k.wrap n))) w) := fun k n => by
  unfold ir
  split
  · intro hi
    rw [wT hi]
    exact bo h (by simp only [aB])
  · exact bo h (by simp only [aB])
 unfold Jr
 split
 all_goals first
  | trivial
  | skip
 all_goals simp only [aB] at hx hy
 all_goals first
  | (subst hx hy
     split
     · rename_i e; subst e
       first
        | (simp only [eqGuard, binOp, ne_eq, not_true_eq_false, if_false, Op.intArith, Op.intCmp, Op.intBits, cA, cQ, cK, Bool.not_eq_true', Bool.true_eq_false, cC, dk, bH, if_true, fm]
           first
            | exact hI _ _
            | exact bo h (by simp only [aB]))
        | (intro hb
           simp only [eqGuard, binOp, ne_eq, not_true_eq_false, if_false, Op.intDiv, if_neg hb, cA, cQ, cK, Bool.not_eq_true', Bool.true_eq_false, cC, dk, bH, if_true, fm]
           first
            | exact hI _ _
            | exact bo h (by simp only [aB]))
     · trivial)
  | skip
 · subst hx hy
   simp only [eqGuard, binOp, Op.stringOp, cA, cQ, cK, cC, bH, if_false, fm, ByteArray.toList_eq, List.toList_toArray]
   exact bo h (by simp only [aB])
 · subst hx hy
   simp only [eqGuard, binOp, Op.stringOp, cA, cQ, cK, cC, bH, if_false, fm, ByteArray.toList_eq, List.toList_toArray]
   exact bo h (by simp only [aB]; rfl)
 · subst hx hy
   rename_i a b
   intro hle
   have h1 : ¬ (((ByteArray.mk a.toArray).size + (ByteArray.mk b.toArray).size : Nat) : Int) > IntKind.i64.max := by
    have e1 : (ByteArray.mk a.toArray).size = a.length := by simp [ByteArray.size]
    have e2 : (ByteArray.mk b.toArray).size = b.length := by simp [ByteArray.size]
    have e3 : IntKind.i64.max = 9223372036854775807 := by simp [IntKind.max, IntKind.signed, IntKind.bits]
    rw [e1, e2, e3]; omega
   have h2 : (ByteArray.mk a.toArray) ++ (ByteArray.mk b.toArray) = ByteArray.mk (a ++ b).toArray := by
    apply ByteArray.ext
    simp
   simp only [eqGuard, binOp, Op.stringOp, cA, cQ, cK, if_neg h1, fm, cC, dk, bH, if_true, if_false, h2]
   exact bo h (by simp only [aB])
 · subst hx hy
   split
   · rename_i ht
     have hu : C.P.underlying t = some .bool := by unfold vd at ht; split at ht <;> simp_all
     have hr := run_equalIn_bool' (P := C.P) w 9999 t
     simp only [eqGuard, binOp, Op.equal, Op.maxDepth, cA, cQ, cK, hr _ _ hu, cC, bH, if_false, fm]
     exact bo h (by simp only [aB])
   · trivial
 · subst hx hy
   split
   · rename_i ht
     have hu : C.P.underlying t = some .bool := by unfold vd at ht; split at ht <;> simp_all
     have hr := run_equalIn_bool' (P := C.P) w 9999 t
     simp only [eqGuard, binOp, Op.equal, Op.maxDepth, cA, cQ, cK, hr _ _ hu, cC, bH, if_false, fm]
     exact bo h (by simp only [aB]; rfl)
   · trivial
 · rename_i a b
   obtain ⟨us, rfl, _, ha⟩ := hx
   obtain ⟨vs, rfl, _, hb⟩ := hy
   cases he : HZ C.P t a b with
   | none => trivial
   | some r =>
     obtain ⟨h1, h2⟩ := B1 (w := w) he ha hb
     simp only [tp, cA, run_eqGuard_agg w _ _ _ _ _ _ h2, cK, run_eql_struct, h1, cQ]
     exact bo h (by simp only [aB])
 · rename_i a b
   obtain ⟨us, rfl, _, ha⟩ := hx
   obtain ⟨vs, rfl, _, hb⟩ := hy
   cases he : HZ C.P t a b with
   | none => trivial
   | some r =>
     obtain ⟨h1, h2⟩ := B1 (w := w) he ha hb
     simp only [tp, cA, run_eqGuard_agg w _ _ _ _ _ _ h2, cK, run_neq_struct, h1, cQ]
     exact bo h (by simp only [aB])
 · obtain ⟨u', rfl, _⟩ := hx
   subst hy
   split
   · rename_i ht
     obtain ⟨ms, hu⟩ : ∃ ms, C.P.underlying t = some (.interface ms) := by unfold kn at ht; split at ht <;> simp_all
     have hr := sa (P := C.P) w 9999 t ms hu
     simp only [eqGuard, binOp, Op.equal, Op.maxDepth, hr, cA, cQ, cK, cC, bH, if_false, fm]
     exact bo h (by simp only [aB])
   · trivial
 · obtain ⟨u', rfl, _⟩ := hx
   subst hy
   split
   · rename_i ht
     obtain ⟨ms, hu⟩ : ∃ ms, C.P.underlying t = some (.interface ms) := by unfold kn at ht; split at ht <;> simp_all
     have hr := sa (P := C.P) w 9999 t ms hu
     simp only [eqGuard, binOp, Op.equal, Op.maxDepth, hr, cA, cQ, cK, cC, dk, bH, if_false, fm]
     exact bo h (by simp only [aB])
   · trivial
 · subst hx hy
   split
   · rename_i ht
     obtain ⟨ms, hu⟩ : ∃ ms, C.P.underlying t = some (.pointer ms) := by unfold lV at ht; split at ht <;> simp_all
     have hr := ju (P := C.P) w 9999 t ms hu
     simp only [eqGuard, binOp, Op.equal, Op.maxDepth, hr, cA, cQ, cK, Option.isNone_none, cC, dk, bH, if_false, fm]
     exact bo h (by simp [aB])
   · trivial
 · obtain ⟨x, _, rfl⟩ := hx
   subst hy
   split
   · rename_i ht
     obtain ⟨ms, hu⟩ : ∃ ms, C.P.underlying t = some (.pointer ms) := by unfold lV at ht; split at ht <;> simp_all
     have hr := ju (P := C.P) w 9999 t ms hu
     simp only [eqGuard, binOp, Op.equal, Op.maxDepth, hr, cA, cQ, cK, Option.isNone_none, cC, dk, bH, if_false, fm]
     exact bo h (by simp [aB])
   · trivial
 · subst hx hy
   split
   · rename_i ht
     obtain ⟨ms, hu⟩ : ∃ ms, C.P.underlying t = some (.pointer ms) := by unfold lV at ht; split at ht <;> simp_all
     have hr := ju (P := C.P) w 9999 t ms hu
     simp only [eqGuard, binOp, Op.equal, Op.maxDepth, hr, cA, cQ, cK, Option.isNone_none, cC, dk, bH, if_false, fm]
     exact bo h (by simp [aB])
   · trivial
 · obtain ⟨x, _, rfl⟩ := hx
   subst hy
   split
   · rename_i ht
     obtain ⟨ms, hu⟩ : ∃ ms, C.P.underlying t = some (.pointer ms) := by unfold lV at ht; split at ht <;> simp_all
     have hr := ju (P := C.P) w 9999 t ms hu
     simp only [eqGuard, binOp, Op.equal, Op.maxDepth, hr, cA, cQ, cK, Option.isNone_none, cC, dk, bH, if_false, fm]
     exact bo h (by simp [aB])
   · trivial
 · obtain ⟨_, _, _, rfl, _⟩ := hx
   subst hy
   split
   · rename_i ht
     obtain ⟨ms, hu⟩ : ∃ ms, C.P.underlying t = some (.pointer ms) := by unfold lV at ht; split at ht <;> simp_all
     have hr := ju (P := C.P) w 9999 t ms hu
     simp only [eqGuard, binOp, Op.equal, Op.maxDepth, hr, cA, cQ, cK, Option.isNone_none, cC, dk, bH, if_false, fm]
     exact bo h (by simp [aB])
   · trivial
 · obtain ⟨_, _, _, rfl, _⟩ := hx
   subst hy
   split
   · rename_i ht
     obtain ⟨ms, hu⟩ : ∃ ms, C.P.underlying t = some (.pointer ms) := by unfold lV at ht; split at ht <;> simp_all
     have hr := ju (P := C.P) w 9999 t ms hu
     simp only [eqGuard, binOp, Op.equal, Op.maxDepth, hr, cA, cQ, cK, Option.isNone_none, cC, dk, bH, if_false, fm]
     exact bo h (by simp [aB])
   · trivial
theorem K8 (h : br g U w) {op : BinOp} {t : TypeId} {x y : AV} {u v : Value} (X Y : Operand) (hx : aB g x u) (hy : aB g y v) :
 aw.Fits C g U (EZ C.P op t (isLit X || isLit Y) x y) ((do let r <- (do eqGuard op t X Y u v; binOp op t u v : Sem Value); pure (Next.value r) : Sem Next).run C.P w) := by
 have key : ∀ (op : BinOp), (op = .eql \/ op = .neq) -> kn C.P t = true -> (isLit X || isLit Y) = true -> (eqGuard op t X Y .nilIface .nilIface).run C.P w = .ok () w := fun op hop ht hl => by
  obtain ⟨ms, hu⟩ : ∃ ms, C.P.underlying t = some (.interface ms) := by unfold kn at ht; split at ht <;> simp_all
  rcases hop with rfl | rfl <;> cases X <;> cases Y <;> simp [isLit] at hl <;> simp [eqGuard]
 unfold EZ
 split
 · simp only [aB] at hx hy
   subst hx hy
   split
   · rename_i ht
     obtain ⟨ms, hu⟩ : ∃ ms, C.P.underlying t = some (.interface ms) := by have ht := ht.1; unfold kn at ht; split at ht <;> simp_all
     have hr := qo (P := C.P) w 9999 t ms hu
     simp only [cA, key _ (.inl rfl) ht.1 ht.2, binOp, Op.equal, Op.maxDepth, hr, cQ, cK, cC, dk, bH, if_false, fm]
     exact bo h (by simp [aB])
   · trivial
 · simp only [aB] at hx hy
   subst hx hy
   split
   · rename_i ht
     obtain ⟨ms, hu⟩ : ∃ ms, C.P.underlying t = some (.interface ms) := by have ht := ht.1; unfold kn at ht; split at ht <;> simp_all
     have hr := qo (P := C.P) w 9999 t ms hu
     simp only [cA, key _ (.inr rfl) ht.1 ht.2, binOp, Op.equal, Op.maxDepth, hr, cQ, cK, cC, dk, bH, if_false, fm]
     exact bo h (by simp [aB])
   · trivial
 · exact K7 h X Y hx hy
end
end Go.Rip
namespace Go.Rip
open Go.RowKit
section
variable {C : cV} {g : Gh} {U : St} {w : World}
def Jn (P : Program) (t u : TypeId) : Option (TypeId × Nat) :=
 match P.underlying u with
 | some (.slice _) => eO P t
 | some .string => match eO P t with
   | some (e, 1) => some (e, 1)
   | _ => none
 | _ => none
def qp (U : St) : AV -> Option (Nat × List AV)
 | .vec m _ l => some (m, l)
 | .ak => some (0, [])
 | .ms b off m iC _ => match U.box b with
   | some l => some (m, (l.drop off).take (m * iC))
   | none => none
 | .str s => some (s.length, s.map fun b => .int .u8 b.toNat)
 | _ => none
def Cu (P : Program) (t u : TypeId) (mu : Bool) (s y : AV) (U : St) : aw :=
 match Jn P t u, qp U y with
 | some (e, sz), some (m, l2) =>
   .cond (l2.length = m * sz) (match s with
   | .ak => if m = 0 then .val .ak else .cond (m <= 4294967296) (if mu then .om m sz e none l2 else .mP m l2 none ⟨m, e, sz⟩)
   | .vec n .full l => if m = 0 then .val s else .cond (l.length = n * sz /\ n + m <= 4294967296) (.mP (n + m) (l ++ l2) none ⟨n + m, e, sz⟩)
   | .vec n (.own τ) l => .cond (U.tok τ = some ⟨n, e, sz⟩ /\ l.length = n * sz /\ n + m <= 4294967296) (.mP (n + m) (l ++ l2) (some τ) ⟨n + m, e, sz⟩)
   | .ms b off n iC e' => match U.box b with
     | some l => .cond (off = 0 /\ iC = sz /\ e' = e /\ n * sz <= l.length /\ n + m <= 4294967296) (.om (n + m) sz e (some b) (l.take (n * sz) ++ l2))
     | none => .bad
   | _ => .bad)
 | _, _ => .bad
theorem K4 {P : Program} {t u e : TypeId} {sz : Nat} (h : Jn P t u = some (e, sz)) : eO P t = some (e, sz) /\ ∃ d, P.underlying u = some d /\ ((∃ x, d = .slice x) \/ d = .string) := by
 unfold Jn at h
 split at h
 · rename_i x hx; exact ⟨h, _, hx, .inl ⟨x, rfl⟩⟩
 · rename_i hx
   split at h
   · rename_i e' he
     simp only [iE, lq] at h
     obtain ⟨rfl, rfl⟩ := h
     exact ⟨he, _, hx, .inr rfl⟩
   · cases h
 · cases h
theorem P8 (h : br g U w) {y : AV} {v : Value} (hy : aB g y v) {m : Nat} {l2 : List AV} (hs : qp U y = some (m, l2)) {sz : Nat} (hl : l2.length = m * sz) :
 (∀ W, (Builtin.lenOf v).run C.P W = .ok m W) /\ ∃ us : List Value, aN g l2 us /\ (∀ u ∈ us, u.oneCell' = true) /\ ∀ W : World, W.heap = w.heap -> (Builtin.firstCells sz m v).run C.P W = .ok us.toArray W := by
 have km : ∀ aO off j, (⟨aO, off, none⟩ : Addr).add j = ⟨aO, off + j, none⟩ := fun aO off j => by unfold Addr.add; split <;> simp_all
 have rk : ∀ (W : World) a, W.heap = w.heap -> W.cell? a = w.cell? a := fun W a hW => by simp [World.cell?, hW]
 have read : ∀ (aO off c : Nat) (us : List Value), us.length = m * sz -> (∀ j u, us[j]? = some u -> w.cell? ⟨aO, off + j, none⟩ = some u) -> ∀ W : World, W.heap = w.heap ->
  (Builtin.firstCells sz m (.slice (some ⟨aO, off, none⟩) m c)).run C.P W = .ok us.toArray W := fun aO off c us hlen hc W hW => by
  exact run_firstCells_some W sz m ⟨aO, off, none⟩ m c us hlen (fun j u hu => by rw [km, rk W _ hW]; exact hc j u hu)
 cases y <;> simp only [qp, reduceCtorEq, iE, lq] at hs
 · rename_i s
   obtain ⟨rfl, rfl⟩ := hs
   simp only [aB] at hy
   subst hy
   have fi : (ByteArray.mk s.toArray).size = s.length := by simp [ByteArray.size]
   refine ⟨fun W => by simp [Builtin.lenOf, fi], s.map (fun b => Value.int .u8 b.toNat), ?_, by simp [Value.oneCell'], fun W _ => ?_⟩
   · refine aN.BQ (by simp) fun i x u hx hu => ?_
     simp only [ma, oI] at hx hu
     obtain ⟨b, hb, rfl⟩ := hx
     obtain ⟨b', eA, rfl⟩ := hu
     rw [hb] at eA; cases eA
     simp only [aB]
   · simp only [Builtin.firstCells, cQ]
     congr 1
     apply Array.ext'
     simp
 · obtain ⟨rfl, rfl⟩ := hs
   simp only [aB] at hy
   subst hy
   exact ⟨fun W => by simp [Builtin.lenOf], [], by simp [aN], by simp, fun W _ => by simp [Builtin.firstCells]⟩
 · rename_i n cap l
   obtain ⟨rfl, rfl⟩ := hs
   simp only [aB] at hy
   obtain ⟨aO, off, c, vs, rfl, _, _, _, hi, hr⟩ := hy
   exact ⟨fun W => by simp [Builtin.lenOf], vs, hr, fun u hu => by
    obtain ⟨j, hj⟩ := List.getElem?_of_mem hu
    exact (h.cB _ _ _ (hi j u hj)).2, read aO off c vs (by rw [hr.length, hl]) fun j u hu => (h.cB _ _ _ (hi j u hu)).1⟩
 · rename_i b off n iC e'
   split at hs
   · rename_i l hb
     simp only [iE, lq] at hs
     obtain ⟨rfl, rfl⟩ := hs
     simp only [aB] at hy
     obtain ⟨x, c, hx, rfl, _, _, _, _⟩ := hy
     obtain ⟨a, vs, hv, ha, hr, hc⟩ := rh h (p := .box b off) (v := .pointer (some ⟨x.aO, off, none⟩)) (l := l.drop off) (by simp only [aB]; exact ⟨x, hx, rfl⟩) (by simp [lP, hb])
     cases hv
     refine ⟨fun W => by simp [Builtin.lenOf], vs.take (n * iC), hr.take _, fun u hu => ?_, read x.aO off c _ (by rw [(hr.take _).length, hl]) fun j u hu => ?_⟩
     · obtain ⟨j, hj⟩ := List.getElem?_of_mem hu
       rw [List.getElem?_take] at hj
       split at hj
       · exact (hc j u hj).2
       · cases hj
     · rw [List.getElem?_take] at hu
       split at hu
       · have := (hc j u hu).1; rwa [km] at this
       · cases hu
   · cases hs
theorem ou {P : Program} {w : World} {t u ty e : TypeId} {i : TypeInfo} {d : TypeDesc} (ht : P.underlying t = some (.slice e)) (hu : P.underlying u = some d) (hd : (∃ x, d = .slice x) \/ d = .string) (hi : P.info? e = some i)
 {base : Option Addr} {n c m : Nat} {v : Value} {us : List Value} (hm : ∀ W, (Builtin.lenOf v).run P W = .ok m W) (hf : (Builtin.firstCells i.size m v).run P w = .ok us.toArray w) (o5 : n + m <= c) :
 (Builtin.append_ #[t, u] ty #[.slice base n c, v]).run P w = match base with
   | some a => ((storeCells (a.add (n * i.size)) us).run P w).andThen fun _ w' => .ok (.slice base (n + m) c) w'
   | none => .ok (.slice base (n + m) c) w := by
 rcases hd with ⟨x, rfl⟩ | rfl <;> cases base <;>
  simp [Builtin.append_, run_underlying ht, run_underlying hu, sizeOf, typeInfo, hi, hm, o5, hf]
theorem C5 {P : Program} {w : World} {t u ty e : TypeId} {i : TypeInfo} {z : Value} {d : TypeDesc} (ht : P.underlying t = some (.slice e)) (hu : P.underlying u = some d) (hd : (∃ x, d = .slice x) \/ d = .string) (hi : P.info? e = some i) (hz : i.zero = some z) (Bj : i.bytes <= 32768)
 {base : Option Addr} {n c m : Nat} {v : Value} {yi us : List Value} (hm : ∀ W, (Builtin.lenOf v).run P W = .ok m W) (hf : ∀ W : World, W.heap = w.heap -> (Builtin.firstCells i.size m v).run P W = .ok us.toArray W)
 (ho : ∀ W : World, W.heap = w.heap -> (Builtin.firstCells i.size n (.slice base n c)).run P W = .ok yi.toArray W) (ac3 : c < n + m) (iN : n + m <= 4294967296) :
 (Builtin.append_ #[t, u] ty #[.slice base n c, v]).run P w =
   .ok (.slice (some ⟨w.heap.size, 0, none⟩) (n + m) (grownCap w (n + m) c e))
    (w.drew.alloc (.cells (yi.toArray ++ us.toArray ++ Builtin.zeroCells z.cells (grownCap w (n + m) c e - (n + m))) e)) := by
 have o5 : ¬ (n + m <= c) := by omega
 have QT : ¬ (9223372036854775807 < ((n : Int) + (m : Int))) := by omega
 have gA : (n + m) * i.bytes <= 140737488355328 := Nat.le_trans (Nat.mul_le_mul iN Bj) (by omega)
 have Ds := growslice_fits (old := c) (need := n + m) (bytes := i.bytes) (by omega) gA
 have QS : ¬ (281474976710656 < Builtin.nextslicecap (n + m) c * i.bytes) := by omega
 have zF := hf w.drew rfl
 have Tg := ho w.drew rfl
 rcases hd with ⟨x, rfl⟩ | rfl <;>
 · simp [Builtin.append_, run_underlying ht, run_underlying hu, sizeOf, typeInfo, zeroValue, hi, hz, hm, o5, QT, QS, Question.forced, zF, Tg, newRow, grownCap]
   congr 2
   apply Array.ext'
   simp [qT]
theorem St.HX (U : St) (d : Option Nat) : St.Le (U.rQ d) U := by
 cases d with
 | none => exact St.Le.refl U
 | some b => exact St.sL U b
theorem oQ {w : World} (h : br g U w) {del : Option Nat} {e : TypeId} {sz n c : Nat} {l : List AV} {vs rest : List Value} (hr : aN g l vs) (h1 : ∀ u ∈ vs, u.oneCell' = true) (h2 : ∀ u ∈ rest, u.oneCell' = true)
 (hl : l.length = n * sz) (hc : vs.length + rest.length = c * sz) (hn : n <= c) (uZ : c <= maxLen) :
 aw.Fits C g U (.mP n l del ⟨n, e, sz⟩) (.ok (.value (.slice (some ⟨w.heap.size, 0, none⟩) n c)) (w.alloc (.cells (vs ++ rest).toArray e))) := by
 obtain ⟨τ, g', h3, hle, h4, h5, h6⟩ := (h.weaken (St.HX U del)).mP e sz n c (vs ++ rest).toArray vs rest (by simp) (by
  intro u hu
  simp only [gg] at hu
  rcases hu with hu | hu
  · exact h1 u hu
  · exact h2 u hu) (by rw [hr.length, hl]) (by simp [hc]) hn uZ
 refine ⟨_, _, g', τ, rfl, h3, hle, h6, ?_⟩
 simp only [NV.at, aB]
 exact ⟨w.heap.size, 0, c, vs, rfl, hn, uZ, ⟨rfl, h4⟩, h5, hr.mono hle⟩
theorem pV {w : World} (h : br g U w) {del : Option Nat} {e : TypeId} {sz n c : Nat} {l : List AV} {vs rest : List Value} (hr : aN g l vs) (h1 : ∀ u ∈ vs, u.oneCell' = true) (h2 : ∀ u ∈ rest, u.oneCell' = true)
 (hc : vs.length + rest.length = c * sz) (hn : n <= c) (uZ : c <= maxLen) :
 aw.Fits C g U (.om n sz e del l) (.ok (.value (.slice (some ⟨w.heap.size, 0, none⟩) n c)) (w.alloc (.cells (vs ++ rest).toArray e))) := by
 obtain ⟨b, g', h3, hle, h4, h6⟩ := (h.weaken (St.HX U del)).cJ e (vs ++ rest).toArray vs rest l (by simp) hr (by
  intro u hu
  simp only [gg] at hu
  rcases hu with hu | hu
  · exact h1 u hu
  · exact h2 u hu)
 refine ⟨_, _, g', b, rfl, h3, hle, h6, ?_⟩
 simp only [NV.at, aB]
 exact ⟨_, c, h4, rfl, hn, uZ, by simp [hc], rfl⟩
theorem lK {z : Array Value} (hz : ∀ u ∈ z.toList, u.oneCell' = true) (n : Nat) (hp : 0 < z.size) : ∀ u ∈ (Builtin.zeroCells z n).toList, u.oneCell' = true := by
 intro u hu
 simp only [Builtin.zeroCells, Array.toList_map, List.mem_map] at hu
 obtain ⟨i, _, rfl⟩ := hu
 have aL : i % z.size < z.size := Nat.mod_lt _ hp
 rw [getElem!_pos z _ aL]
 exact hz _ (by simp)
theorem EX (h : br g U w) {t u ty : TypeId} {mu : Bool} {s y : AV} {v v2 : Value} (hs : aB g s v) (hy : aB g y v2) :
 aw.Fits C g U (Cu C.P t u mu s y U) ((do let r <- Builtin.append_ #[t, u] ty #[v, v2]; pure (Next.value r) : Sem Next).run C.P w) := by
 have km : ∀ aO off j, (⟨aO, off, none⟩ : Addr).add j = ⟨aO, off + j, none⟩ := fun aO off j => by unfold Addr.add; split <;> simp_all
 unfold Cu
 split
 · rename_i e sz m l2 hap CL
   intro rE
   obtain ⟨BC, d, hu, hd⟩ := K4 hap
   obtain ⟨i, z, ht, hi, hz, xg, rfl, uu, Bj, hz1⟩ := ik BC
   obtain ⟨hm, us, nJ, uW, hf⟩ := P8 (C := C) h hy CL rE
   have L0 : us.length = m * i.size := by rw [nJ.length, rE]
   have grow : ∀ (base : Option Addr) (n c : Nat) (yi : List Value), (∀ W : World, W.heap = w.heap -> (Builtin.firstCells i.size n (.slice base n c)).run C.P W = .ok yi.toArray W) -> yi.length = n * i.size -> c < n + m -> n + m <= 4294967296 ->
    ∃ cap rest, n + m <= cap /\ cap <= maxLen /\ (∀ u ∈ rest, u.oneCell' = true) /\ (yi ++ us).length + rest.length = cap * i.size /\
    (Builtin.append_ #[t, u] ty #[.slice base n c, v2]).run C.P w = .ok (.slice (some ⟨w.drew.heap.size, 0, none⟩) (n + m) cap) (w.drew.alloc (.cells ((yi ++ us) ++ rest).toArray e)) := fun base n c yi ho DC aL iN => by
    have gk := grownCap_ge w (n + m) c e
    have hle := grownCap_le_maxLen w (n + m) c e (by unfold maxLen; omega)
    refine ⟨grownCap w (n + m) c e, (Builtin.zeroCells z.cells (grownCap w (n + m) c e - (n + m))).toList, gk, hle, lK hz1 _ (by omega), ?_, ?_⟩
    · rw [eQ, DC, L0, rU, size_zeroCells, xg, <- Nat.add_mul, <- Nat.add_mul]
      congr 1; omega
    · rw [C5 ht hu hd hi hz Bj hm hf ho aL iN]
      congr 3
      simp
   split
   · simp only [aB] at hs
     subst hs
     split
     · rename_i h0
       subst h0
       rw [cA, ou ht hu hd hi hm (hf w rfl) (by omega)]
       exact bo h (by simp only [aB])
     · rename_i h0
       intro iN
       obtain ⟨cap, rest, h1, h2, h3, h4, h5⟩ := grow none 0 0 [] (fun W _ => by simp [Builtin.firstCells]) (by simp) (by omega) (by omega)
       rw [cA, h5]
       have dT := h.grow (kj w)
       simp only [bW, oJ] at h1 h4 h5 ⊢
       split
       · exact pV dT nJ uW h3 h4 h1 h2
       · exact oQ dT nJ uW h3 rE h4 h1 h2
   · rename_i n l
     have tJ := hs
     simp only [aB] at hs
     obtain ⟨aO, off, c, vs, rfl, DB, uZ, xL, nk, hr⟩ := hs
     simp only [pR] at xL
     subst xL
     split
     · rename_i h0
       subst h0
       rw [cA, ou ht hu hd hi hm (hf w rfl) (by omega)]
       have ab7 : us = [] := List.eq_nil_of_length_eq_zero (by simpa using L0)
       subst ab7
       simp only [storeCells, cQ, cK, Nat.add_zero]
       exact bo h tJ
     · rename_i h0
       rintro ⟨hl, iN⟩
       have pF : vs.length = c * i.size := by rw [hr.length, hl]
       have ho : ∀ W : World, W.heap = w.heap -> (Builtin.firstCells i.size c (.slice (some ⟨aO, off, none⟩) c c)).run C.P W = .ok vs.toArray W := fun W hW =>
        run_firstCells_some W i.size c ⟨aO, off, none⟩ c c vs pF (fun j u hu => by
         rw [km]
         have : W.cell? ⟨aO, off + j, none⟩ = w.cell? ⟨aO, off + j, none⟩ := by simp [World.cell?, hW]
         rw [this]; exact (h.cB _ _ _ (nk j u hu)).1)
       obtain ⟨cap, rest, h1, h2, h3, h4, h5⟩ := grow (some ⟨aO, off, none⟩) c c vs ho pF (by omega) iN
       rw [cA, h5]
       have dT := h.grow (kj w)
       refine oQ dT (hr.append nJ) ?_ h3 (by rw [eQ, hl, rE, Nat.add_mul]) h4 h1 h2
       intro u hu
       simp only [gg] at hu
       rcases hu with hu | hu
       · obtain ⟨j, hj⟩ := List.getElem?_of_mem hu
         exact (h.cB _ _ _ (nk j u hj)).2
       · exact uW u hu
   · rename_i n τ l
     rintro ⟨Yx, hl, iN⟩
     simp only [aB] at hs
     obtain ⟨aO, off, c, vs, rfl, DB, uZ, xL, nk, hr⟩ := hs
     simp only [pR] at xL
     obtain ⟨rfl, Bo⟩ := xL
     obtain ⟨abC, c', cur, k1, k2, k3, k4, k5, k6, k7⟩ := h.tok τ _ Yx
     rw [Bo] at k1; cases k1
     have pF : vs.length = n * i.size := by rw [hr.length, hl]
     by_cases o5 : n + m <= c
     · have Al : n * i.size + us.length <= cur.size := by
        have e4 : cur.size = c * i.size := k4
        rw [L0, e4, <- Nat.add_mul]; exact Nat.mul_le_mul_right _ o5
       have fN := run_storeCells_at C.P aO (n * i.size) e us 0 cur w k3 (by simpa using Al) uW
       simp only [Nat.add_zero] at fN
       rw [cA, ou ht hu hd hi hm (hf w rfl) o5]
       simp only [km, bW, fN, cK]
       obtain ⟨sb, g', t1, hle, t2, t3, t4⟩ := h.Zw Yx Bo cur (cur.toList.take (n * i.size) ++ us ++ cur.toList.drop (n * i.size + us.length)).toArray us m k3 L0 o5 (by simp) uW
       refine ⟨_, _, g', sb, rfl, t1, hle, t4, ?_⟩
       simp only [NV.at, aB]
       refine ⟨aO, 0, c, vs ++ us, rfl, o5, uZ, ⟨rfl, t2⟩, fun j u hu => ?_, (hr.append nJ).mono hle⟩
       by_cases hj : j < vs.length
       · rw [wx hj] at hu
         exact (nk.mono hle) j u hu
       · rw [List.getElem?_append_right (by omega)] at hu
         have e0 : n * i.size + (j - vs.length) = 0 + j := by omega
         have t3' : g'.cB aO (n * i.size + (j - vs.length)) = some u := t3 _ u hu
         rw [e0] at t3'
         exact t3'
     · have ho : ∀ W : World, W.heap = w.heap -> (Builtin.firstCells i.size n (.slice (some ⟨aO, 0, none⟩) n c)).run C.P W = .ok vs.toArray W := fun W hW =>
        run_firstCells_some W i.size n ⟨aO, 0, none⟩ n c vs pF (fun j u hu => by
         rw [km]
         have : W.cell? ⟨aO, 0 + j, none⟩ = w.cell? ⟨aO, 0 + j, none⟩ := by simp [World.cell?, hW]
         rw [this]; exact (h.cB _ _ _ (nk j u hu)).1)
       obtain ⟨cap, rest, h1, h2, h3, h4, h5⟩ := grow (some ⟨aO, 0, none⟩) n c vs ho pF (by omega) iN
       rw [cA, h5]
       have dT := h.grow (kj w)
       refine oQ dT (hr.append nJ) ?_ h3 (by rw [eQ, hl, rE, Nat.add_mul]) h4 h1 h2
       intro u hu
       simp only [gg] at hu
       rcases hu with hu | hu
       · obtain ⟨j, hj⟩ := List.getElem?_of_mem hu
         exact (h.cB _ _ _ (nk j u hj)).2
       · exact uW u hu
   · rename_i b off n iC e'
     split
     · rename_i l hb
       rintro ⟨rfl, rfl, rfl, hnl, iN⟩
       simp only [aB] at hs
       obtain ⟨x, c, hx, rfl, DB, uZ, aaX, YD⟩ := hs
       obtain ⟨x', cur, vs, aa9, k1, k2, k3, k4, k5, k6, k7, k8⟩ := h.box b l hb
       rw [hx] at k1; cases k1
       have sQ : cur.size = c * i.size := by rw [k4]; omega
       have pF := k6.length
       by_cases o5 : n + m <= c
       · have Al : n * i.size + us.length <= cur.size := by
          rw [L0, sQ, <- Nat.add_mul]; exact Nat.mul_le_mul_right _ o5
         have fN := run_storeCells_at C.P x.aO (n * i.size) x.e us 0 cur w k3 (by simpa using Al) uW
         simp only [Nat.add_zero] at fN
         rw [cA, ou ht hu hd hi hm (hf w rfl) o5]
         simp only [km, bW, fN, cK]
         have e1 : cur.toList.take (n * i.size) = vs.take (n * i.size) := by rw [k5, List.take_append_of_le_length (by omega)]
         have BA := h.setRow hb hx (l' := l.take (n * i.size) ++ l2) (cur.toList.take (n * i.size) ++ us ++ cur.toList.drop (n * i.size + us.length)).toArray (vs.take (n * i.size) ++ us) (cur.toList.drop (n * i.size + us.length)) (by
          simp only [List.size_toArray, eQ, List.length_take, List.length_drop, rU]; omega) (by simp [e1]) ((k6.take _).append nJ) (by
          intro u hu
          simp only [gg] at hu
          rcases hu with (hu | hu) | hu
          · exact k7 u (List.mem_of_mem_take hu)
          · exact uW u hu
          · exact k7 u (List.mem_of_mem_drop hu))
         obtain ⟨b', g', f1, hle, f2, f3⟩ := BA.rename (b := b) (x := .box (l.take (n * i.size) ++ l2)) (by simp [St.cw, St.set]) hx
         have ed : (U.cw b (l.take (n * i.size) ++ l2)).del b = U.del b := by
          simp only [St.cw, St.set, St.del, St.mk.injEq, and_true]
          funext y
          split <;> rfl
         rw [ed] at f1 f3
         refine ⟨_, _, g', b', rfl, f1, hle, f3, ?_⟩
         simp only [NV.at, aB]
         exact ⟨x, c, f2, rfl, o5, uZ, aaX, YD⟩
       · have hvn : (vs.take (n * i.size)).length = n * i.size := by simp; omega
         have ho : ∀ W : World, W.heap = w.heap -> (Builtin.firstCells i.size n (.slice (some ⟨x.aO, 0, none⟩) n c)).run C.P W = .ok (vs.take (n * i.size)).toArray W := fun W hW =>
          run_firstCells_some W i.size n ⟨x.aO, 0, none⟩ n c _ hvn (fun j u hu => by
           rw [km]
           have : W.cell? ⟨x.aO, 0 + j, none⟩ = w.cell? ⟨x.aO, 0 + j, none⟩ := by simp [World.cell?, hW]
           rw [this, cell_of_row _ _ _ cur x.e (0, 0) k3, bW, <- kB, k5]
           rw [List.getElem?_take] at hu
           split at hu
           · rw [wx (by omega)]; exact hu
           · cases hu)
         obtain ⟨cap, rest, h1, h2, h3, h4, h5⟩ := grow (some ⟨x.aO, 0, none⟩) n c _ ho hvn (by omega) iN
         rw [cA, h5]
         have dT := h.grow (kj w)
         refine pV dT ((k6.take _).append nJ) ?_ h3 h4 h1 h2
         intro u hu
         simp only [gg] at hu
         rcases hu with hu | hu
         · refine k7 u ?_
           rw [k5]
           exact List.mem_append_left _ (List.mem_of_mem_take hu)
         · exact uW u hu
     · trivial
   · trivial
 · trivial
end
end Go.Rip
namespace Go.Rip
open Go.RowKit
section
variable {C : cV} {g : Gh} {U : St} {w : World}
def dS (xD : Int) : Option AV -> Option Int
 | none => some xD
 | some (.int _ n) => some n
 | _ => none
def vL : kh -> Option AV -> kh
 | .full, none => .full
 | _, _ => .gC
def GI (P : Program) (t : TypeId) (x : AV) (lo hi : Option AV) : aw :=
 match x with
 | .str s => match mN P t, dS 0 lo, dS s.length hi with
   | true, some l, some h => .cond (0 <= l /\ l <= h /\ h <= s.length) (.val (.str ((s.take h.toNat).drop l.toNat)))
   | _, _, _ => .bad
 | .vec n cap l => match eO P t, dS 0 lo, dS n hi with
   | some (_, sz), some a, some b => .cond (0 <= a /\ a <= b /\ b <= n) (.val (.vec (b.toNat - a.toNat) (vL cap hi) ((l.take (b.toNat * sz)).drop (a.toNat * sz))))
   | _, _, _ => .bad
 | .ak => match eO P t, dS 0 lo, dS 0 hi with
   | some (_, _), some a, some b => .cond (a = 0 /\ b = 0) (.val .ak)
   | _, _, _ => .bad
 | .ms b off n iC e => match eO P t, dS 0 lo, dS n hi with
   | some (_, sz), some a, some h => .cond (0 <= a /\ a <= h /\ h <= n /\ (a < n \/ a = 0) /\ iC = sz) (.val (.ms b (off + a.toNat * sz) (h.toNat - a.toNat) iC e))
   | _, _, _ => .bad
 | _ => .bad
theorem run_sliceBound {P : Program} {x : Value} {k : IntKind} {n : Int} {y : Nat} {code : BoundsCode} (hx : x = .int k n) (h0 : 0 <= n) (h1 : n <= y) : (Instr.sliceBound x y code).run P w = .ok n.toNat w := by
 subst hx
 simp [Instr.sliceBound, asIntOf, h0, h1]
theorem AX {xD : Int} {o : Option AV} {v : Option Value} {n : Int} (hr : match o, v with | none, none => True | some x, some u => aB g x u | _, _ => False) (hb : dS xD o = some n) :
 (o = none /\ v = none /\ n = xD) \/ ∃ k u, v = some u /\ u = .int k n /\ ∃ x, o = some x := by
 cases o with
 | none =>
   cases v with
   | none => simp [dS] at hb; exact .inl ⟨rfl, rfl, hb.symm⟩
   | some u => exact hr.elim
 | some x =>
   cases v with
   | none => exact hr.elim
   | some u =>
     cases x <;> simp only [dS, reduceCtorEq, iE] at hb
     subst hb
     simp only [aB] at hr
     exact .inr ⟨_, u, rfl, hr, _, rfl⟩
theorem nz {P : Program} {isS : Bool} {len cap : Nat} {lo hi : Option AV} {vl vh : Option Value} {a b : Int}
 (hl : match lo, vl with | none, none => True | some x, some u => aB g x u | _, _ => False) (hh : match hi, vh with | none, none => True | some x, some u => aB g x u | _, _ => False)
 (ha : dS 0 lo = some a) (hb : dS len hi = some b) (h0 : 0 <= a) (h1 : a <= b) (h2 : b <= len) (h3 : len <= cap) :
 (Instr.sliceBounds isS len cap vl vh none).run P w = .ok (a.toNat, b.toNat, cap) w := by
 rcases AX hl ha with ⟨_, rfl, rfl⟩ | ⟨k, u, rfl, hu, _⟩ <;> rcases AX hh hb with ⟨_, rfl, rfl⟩ | ⟨k', u', rfl, oB, _⟩
 · simp [Instr.sliceBounds]
 · have e1 : ∀ c, (Instr.sliceBound u' cap c).run P w = .ok b.toNat w := fun c => run_sliceBound oB (by omega) (by omega)
   simp [Instr.sliceBounds, e1]
 · have e1 : ∀ c, (Instr.sliceBound u len c).run P w = .ok a.toNat w := fun c => run_sliceBound hu h0 (by omega)
   simp [Instr.sliceBounds, e1]
 · have e1 : ∀ c, (Instr.sliceBound u' cap c).run P w = .ok b.toNat w := fun c => run_sliceBound oB (by omega) (by omega)
   have e2 : ∀ c, (Instr.sliceBound u b.toNat c).run P w = .ok a.toNat w := fun c => run_sliceBound hu h0 (by omega)
   simp [Instr.sliceBounds, e1, e2]
theorem HL (h : br g U w) {t : TypeId} {x : AV} {v : Value} {lo hi : Option AV} {vl vh : Option Value} (hx : aB g x v)
 (hl : match lo, vl with | none, none => True | some x, some u => aB g x u | _, _ => False) (hh : match hi, vh with | none, none => True | some x, some u => aB g x u | _, _ => False) :
 aw.Fits C g U (GI C.P t x lo hi) ((do let r <- Instr.sliceAt t v vl vh none; pure (Next.value r) : Sem Next).run C.P w) := by
 have km : ∀ aO off j, (⟨aO, off, none⟩ : Addr).add j = ⟨aO, off + j, none⟩ := fun aO off j => by unfold Addr.add; split <;> simp_all
 unfold GI
 split
 · rename_i s
   split
   · rename_i a b ht ha hb
     rintro ⟨h0, h1, h2⟩
     simp only [aB] at hx
     subst hx
     have fi : (ByteArray.mk s.toArray).size = s.length := by simp [ByteArray.size]
     have hr := nz (w := w) (P := C.P) (isS := false) hl hh ha hb h0 h1 h2 (cG _)
     simp only [Instr.sliceAt, Instr.slice, run_underlying (oT ht), cA, cK, fi, hr, cQ, Option.isSome_none, bH, if_false]
     refine bo h ?_
     simp only [aB]
     congr 1
     apply ByteArray.ext
     simp only [ByteArray.data_extract]
     apply Array.ext'
     simp [List.extract_eq_take_drop, List.drop_take]
   · trivial
 · rename_i n cap l
   split
   · rename_i e sz a b ht ha hb
     rintro ⟨h0, h1, h2⟩
     simp only [aB] at hx
     obtain ⟨aO, off, c, vs, rfl, DB, uZ, xL, nk, hr⟩ := hx
     obtain ⟨i, z, hu, iM, hz, xg, rfl, uu, _⟩ := ik ht
     have gJ := nz (w := w) (P := C.P) (isS := true) hl hh ha hb h0 h1 h2 DB
     simp only [Instr.sliceAt, Instr.slice, run_underlying hu, cA, cK, gJ, cQ, ez iM]
     refine bo h ?_
     have aaK : pR g (vL cap hi) aO (if c = a.toNat then off else off + a.toNat * i.size) (b.toNat - a.toNat) (c - a.toNat) := by
      cases cap with
      | full =>
        cases hi with
        | none =>
          simp only [vL, pR] at xL ⊢
          simp only [dS, iE] at hb
          omega
        | some y => trivial
      | own τ => trivial
      | gC => trivial
     simp only [aB]
     refine ⟨aO, if c = a.toNat then off else off + a.toNat * i.size, c - a.toNat, (vs.take (b.toNat * i.size)).drop (a.toNat * i.size), ?_, by omega, by omega, aaK, ?_, (hr.take _).drop _⟩
     · simp only [Option.map_some, km]
       split <;> rfl
     · split
       · rename_i e1
         have : (vs.take (b.toNat * i.size)).drop (a.toNat * i.size) = [] := by
          rw [List.drop_eq_nil_iff]
          have : b.toNat <= a.toNat := by omega
          have := Nat.mul_le_mul_right i.size this
          simp; omega
         rw [this]; intro j u hu; simp at hu
       · intro j u hu
         rw [List.getElem?_drop, List.getElem?_take] at hu
         split at hu
         · have := nk _ u hu
           rw [Nat.add_assoc]; exact this
         · cases hu
   · trivial
 · split
   · rename_i e sz a b ht ha hb
     rintro ⟨rfl, rfl⟩
     simp only [aB] at hx
     subst hx
     obtain ⟨i, z, hu, iM, hz, xg, rfl, uu, _⟩ := ik ht
     have gJ := nz (w := w) (P := C.P) (isS := true) (len := 0) (cap := 0) hl hh ha (by simpa using hb) (by omega) (by omega) (by simp) (cG _)
     simp only [Instr.sliceAt, Instr.slice, run_underlying hu, cA, cK, gJ, cQ, ez iM]
     refine bo h (by simp [aB])
   · trivial
 · rename_i b off n iC e
   split
   · rename_i e' sz a hh' ht ha hb
     rintro ⟨h0, h1, h2, h3, rfl⟩
     simp only [aB] at hx
     obtain ⟨y, c, hy, rfl, DB, uZ, fi, YD⟩ := hx
     obtain ⟨i, z, hu, iM, hz, xg, rfl, uu, _⟩ := ik ht
     have gJ := nz (w := w) (P := C.P) (isS := true) hl hh ha hb h0 h1 h2 DB
     simp only [Instr.sliceAt, Instr.slice, run_underlying hu, cA, cK, gJ, cQ, ez iM]
     refine bo h ?_
     simp only [aB]
     have e2 : off + a.toNat * i.size + (c - a.toNat) * i.size = y.size := by
      have : a.toNat * i.size + (c - a.toNat) * i.size = c * i.size := by rw [<- Nat.add_mul]; congr 1; omega
      omega
     refine ⟨y, c - a.toNat, hy, ?_, by omega, by omega, e2, YD⟩
     simp only [Option.map_some, km]
     split
     · rename_i e1
       have h0a : a.toNat = 0 := by omega
       simp [h0a]
     · rfl
   · trivial
 · trivial
def fZ (op : UnOp) (x : AV) : aw :=
 match op, x with
 | .not, .bool b => .val (.bool (!b))
 | .neg, .int k n => ir k (0 - n)
 | _, _ => .bad
theorem Hc (h : br g U w) (k : IntKind) (n : Int) : aw.Fits C g U (ir k n) (.ok (.value (.int k (k.wrap n))) w) := by
 unfold ir
 split
 · intro hi
   rw [wT hi]
   exact bo h (by simp only [aB])
 · exact bo h (by simp only [aB])
theorem Sv (h : br g U w) {op : UnOp} {x : AV} {v : Value} (hx : aB g x v) : aw.Fits C g U (fZ op x) ((do let r <- Op.unary op v; pure (Next.value r) : Sem Next).run C.P w) := by
 unfold fZ
 split
 · simp only [aB] at hx; subst hx
   exact bo h (by simp only [aB])
 · simp only [aB] at hx; subst hx
   simp only [Op.unary, Op.intArith, cA, cQ, cK]
   exact Hc h _ _
 · trivial
def J1 (P : Program) (t : TypeId) : Option IntKind := match P.underlying t with | some (.int k) => some k | _ => none
def wa (P : Program) (t : TypeId) : Bool := match P.underlying t with
 | some (.slice e) => match P.underlying e with
   | some (.int .u8) => true
   | _ => false
 | _ => false
theorem Em {P : Program} {t : TypeId} (h : wa P t = true) : ∃ e, P.underlying t = some (.slice e) /\ P.underlying e = some (.int .u8) := by
 unfold wa at h
 split at h
 · rename_i e he
   split at h
   · rename_i hu; exact ⟨e, he, hu⟩
   · cases h
 · cases h
def Et (P : Program) (src dst : TypeId) (x : AV) : aw :=
 match J1 P dst, (P.underlying src).isSome, x with
 | some .i64, true, .int _ n => .cond (tz n) (.val (.int .i64 n))
 | some k, true, .int _ n => .val (.int k (k.wrap n))
 | none, true, .str s => if mN P dst = true /\ mN P src = true then .val (.str s) else
   if wa P dst = true /\ mN P src = true then .cond (s.length <= 4294967296) (.val (.vec s.length .gC (s.map fun b => .int .u8 b.toNat))) else .bad
 | _, _, _ => .bad
theorem Ep (h : br g U w) {src dst e : TypeId} {s : List UInt8} (hd : C.P.underlying dst = some (.slice e)) (he : C.P.underlying e = some (.int .u8)) (hs : C.P.underlying src = some .string) (hlen : s.length <= 4294967296) :
 aw.Fits C g U (.val (.vec s.length .gC (s.map fun b => .int .u8 b.toNat))) ((do let r <- convert src dst (.string ⟨s.toArray⟩); pure (Next.value r) : Sem Next).run C.P w) := by
 have gJ := Lib.run_convert_string_bytes (P := C.P) w src dst e ⟨s.toArray⟩ hs hd he
 have fi : (ByteArray.mk s.toArray).size = s.length := by simp [ByteArray.size]
 rw [fi] at gJ
 have gk := grownCap_ge w s.length 0 e
 have hle := grownCap_le_maxLen w s.length 0 e (by unfold maxLen; omega)
 let vs : List Value := s.map fun b => .int .u8 b.toNat
 let g' : Gh := { g with cB := fun aO o => if aO = w.heap.size then vs[o]? else g.cB aO o }
 have pd : ∀ o, g'.cB w.heap.size o = vs[o]? := fun o => by show (if w.heap.size = w.heap.size then _ else _) = _; rw [if_pos rfl]
 have hold : ∀ aO o, aO ≠ w.heap.size -> g'.cB aO o = g.cB aO o := fun aO o hx => by show (if aO = w.heap.size then _ else _) = _; rw [if_neg hx]
 have JT : Gh.Le g g' := ⟨rfl, rfl, fun _ _ h => h, fun aO o u hu => by
  rw [hold _ _ (fun e => by subst e; rw [h.y6 (cG _)] at hu; cases hu)]; exact hu, fun _ _ h => h, fun _ h => h, fun q o hq => hold _ _ (by have := h.le; omega), fun _ _ => rfl⟩
 have dT : br g' U (Lib.bytesWorld w e ⟨s.toArray⟩) := by
  refine h.change w.heap.size h.le JT rfl rfl ⟨rfl, rfl, rfl, by rw [Lib.bytesWorld_size]; omega⟩ (fun k _ hk => Lib.bytesWorld_at_old w e _ k hk) hold (fun _ _ => rfl) (fun o u hu => ?_) (fun es c hr => ?_) (fun b x p k1 k2 => Nat.ne_of_lt (h.wm k1 k2)) (h.C4 (cG _))
  · rw [pd] at hu
    simp only [vs, ma, oI] at hu
    obtain ⟨b, hb, rfl⟩ := hu
    have aL := (dP.1 hb).1
    refine ⟨?_, rfl⟩
    rw [Lib.bytesWorld_cell w e ⟨s.toArray⟩ o (by rw [fi]; exact aL)]
    simp [List.getD, hb]
  · have : g.bZ w.heap.size = some (es, c) := hr
    rw [h.vU (cG _)] at this; cases this
 simp only [cA, gJ, cK, cQ]
 refine ⟨_, _, g', .inl rfl, JT, dT, ?_⟩
 simp only [aB]
 refine ⟨w.heap.size, 0, _, vs, rfl, gk, hle, trivial, fun i u hu => by rw [bW, pd]; exact hu, ?_⟩
 refine aN.BQ (by simp [vs]) fun i x v hx hv => ?_
 simp only [vs, ma, oI] at hx hv
 obtain ⟨b, hb, rfl⟩ := hx
 obtain ⟨b', eA, rfl⟩ := hv
 rw [hb] at eA; cases eA
 simp only [aB]
theorem Jz (h : br g U w) {src dst : TypeId} {x : AV} {v : Value} (hx : aB g x v) : aw.Fits C g U (Et C.P src dst x) ((do let r <- convert src dst v; pure (Next.value r) : Sem Next).run C.P w) := by
 unfold Et
 split
 · rename_i k n hk hs
   simp only [aB] at hx; subst hx
   have hu : C.P.underlying dst = some (.int .i64) := by unfold J1 at hk; split at hk <;> simp_all
   obtain ⟨d, hd⟩ := Option.isSome_iff_exists.1 hs
   intro hi
   simp only [convert, run_underlying hu, run_underlying hd, cA, cQ, cK, Conv.intToInt]
   rw [wT hi]
   exact bo h (by simp only [aB])
 · rename_i k _ n _ hk hs
   simp only [aB] at hx; subst hx
   have hu : C.P.underlying dst = some (.int k) := by unfold J1 at hk; split at hk <;> simp_all
   obtain ⟨d, hd⟩ := Option.isSome_iff_exists.1 hs
   simp only [convert, run_underlying hu, run_underlying hd, cA, cQ, cK, Conv.intToInt]
   exact bo h (by simp only [aB])
 · split
   · rename_i hc
     simp only [aB] at hx; subst hx
     simp only [convert, run_underlying (oT hc.1), run_underlying (oT hc.2), cA, cQ, cK]
     exact bo h (by simp only [aB])
   · split
     · rename_i hc
       intro hlen
       simp only [aB] at hx; subst hx
       obtain ⟨e, hd, he⟩ := Em hc.1
       exact Ep h hd he (oT hc.2) hlen
     · trivial
 · trivial
def yd (P : Program) (t : TypeId) : Bool := match P.underlying t with | some (.interface _) => false | some _ => true | none => false
def wg (P : Program) (t : TypeId) (x : AV) : aw := if yd P t = true then .val (.iface t x) else .bad
theorem BN (h : br g U w) {t : TypeId} {x : AV} {v : Value} (hx : aB g x v) : aw.Fits C g U (wg C.P t x) ((do let r <- Instr.makeInterface t v; pure (Next.value r) : Sem Next).run C.P w) := by
 unfold wg
 split
 · rename_i hc
   unfold yd at hc
   split at hc
   · cases hc
   · rename_i d hn hd
     simp only [Instr.makeInterface, run_underlying hd, cA, cK]
     cases d
     case interface => exact (hn _ rfl).elim
     all_goals
      simp only [cQ, cK]
      exact bo h (by simp only [aB]; exact ⟨v, rfl, hx⟩)
   · cases hc
 · trivial
def aX (x : AV) (i : Nat) : aw :=
 match x with
 | .aU l => gP (l.drop i)
 | _ => .bad
theorem Ej (h : br g U w) {x : AV} {v : Value} (hx : aB g x v) (i : Nat) : aw.Fits C g U (aX x i) ((do let r <- Instr.extract v i; pure (Next.value r) : Sem Next).run C.P w) := by
 unfold aX
 split
 · rename_i l
   simp only [aB] at hx
   obtain ⟨vs, rfl, hr⟩ := hx
   cases hd : l.drop i with
   | nil => trivial
   | cons y ys =>
     have hy : l[i]? = some y := by
      have := congrArg (fun l => l[0]?) hd
      simpa using this
     obtain ⟨u, hu, hyu⟩ := hr.get hy
     have e : vs.toArray[i]? = some u := by simpa using hu
     simp only [Instr.extract, e, cA, cQ, cK]
     exact bo h hyu
 · trivial
def th (x : AV) : aw :=
 match x with
 | .iface t v => .panic (.iface t v)
 | _ => .bad
theorem HC (h : br g U w) {x : AV} {v : Value} (hx : aB g x v) : aw.Fits C g U (th x) ((do let r <- Instr.panic v; pure (Next.value r) : Sem Next).run C.P w) := by
 unfold th
 split
 · have jF := hx
   simp only [aB] at hx
   obtain ⟨u, rfl, hu⟩ := hx
   simp only [Instr.panic, cA, run_goPanic, Result.andThen_halt]
   exact ⟨_, w, rfl, h, jF⟩
 · trivial
theorem CU (h : br g U w) {ev : Operand -> Value} {o : Oper} {X : Operand} {x : AV} (ho : o.op = .nilCheck X) (hx : aB g x (ev X)) : aw.Fits C g U (aI x) ((execOp ev o).run C.P w) := by
 unfold aI
 split
 · have jF := hx
   simp only [aB] at hx
   obtain ⟨y, _, hv⟩ := hx
   simp only [execOp, ho, hv, cQ]
   rw [hv] at jF
   exact bo h jF
 · have jF := hx
   simp only [aB] at hx
   obtain ⟨_, _, _, hv, _⟩ := hx
   simp only [execOp, ho, hv, cQ]
   rw [hv] at jF
   exact bo h jF
 · have jF := hx
   simp only [aB] at hx
   obtain ⟨_, _, hv, _⟩ := hx
   simp only [execOp, ho, hv, cQ]
   rw [hv] at jF
   exact bo h jF
 · trivial
def Kb (P : Program) (t : TypeId) : Option Bool :=
 match P.underlying t with
 | some .string => some true
 | some (.slice _) => some false
 | _ => none
def F7 (P : Program) (t : TypeId) (x : AV) (U : St) : aw :=
 match Kb P t, x with
 | some true, .str s => .val (.int .i64 s.length)
 | some false, .vec n _ _ => .val (.int .i64 n)
 | some false, .ms _ _ n _ _ => .val (.int .i64 n)
 | some false, .ak => .val (.int .i64 0)
 | _, _ => .bad
theorem tN {P : Program} {t : TypeId} {b : Bool} (h : Kb P t = some b) : (b = true /\ P.underlying t = some .string) \/ (b = false /\ ∃ e, P.underlying t = some (.slice e)) := by
 unfold Kb at h
 split at h
 · rename_i e; simp at h; exact .inl ⟨h, e⟩
 · rename_i e' e; simp at h; exact .inr ⟨h, _, e⟩
 · cases h
theorem Mv (h : br g U w) {t ty : TypeId} {x : AV} {v : Value} (hx : aB g x v) : aw.Fits C g U (F7 C.P t x U) ((do let r <- Builtin.len_ #[t] ty #[v]; pure (Next.value r) : Sem Next).run C.P w) := by
 unfold F7
 split
 · rename_i s FQ
   have hu : C.P.underlying t = some .string := by rcases tN FQ with ⟨_, h⟩ | ⟨h, _⟩ <;> first | exact h | cases h
   simp only [aB] at hx; subst hx
   have fi : (ByteArray.mk s.toArray).size = s.length := by simp [ByteArray.size]
   simp [Builtin.len_, run_underlying hu, goInt, fi]
   exact bo h (by simp only [aB])
 · rename_i FQ
   obtain ⟨e0, hu⟩ : ∃ e, C.P.underlying t = some (.slice e) := by rcases tN FQ with ⟨h, _⟩ | ⟨_, h⟩ <;> first | exact h | cases h
   simp only [aB] at hx
   obtain ⟨_, _, _, _, rfl, _⟩ := hx
   simp [Builtin.len_, run_underlying hu, goInt]
   exact bo h (by simp only [aB])
 · rename_i FQ
   obtain ⟨e0, hu⟩ : ∃ e, C.P.underlying t = some (.slice e) := by rcases tN FQ with ⟨h, _⟩ | ⟨_, h⟩ <;> first | exact h | cases h
   simp only [aB] at hx
   obtain ⟨_, _, _, rfl, _⟩ := hx
   simp [Builtin.len_, run_underlying hu, goInt]
   exact bo h (by simp only [aB])
 · rename_i FQ
   obtain ⟨e0, hu⟩ : ∃ e, C.P.underlying t = some (.slice e) := by rcases tN FQ with ⟨h, _⟩ | ⟨_, h⟩ <;> first | exact h | cases h
   simp only [aB] at hx; subst hx
   simp [Builtin.len_, run_underlying hu, goInt]
   exact bo h (by simp only [aB])
 · trivial
def ux (x y : AV) : aw :=
 match x, y with
 | .int k a, .int k' b => if k = k' then .val (.int k (if b < a then b else a)) else .bad
 | _, _ => .bad
def wi (x y : AV) : aw :=
 match x, y with
 | .int k a, .int k' b => if k = k' then .val (.int k (if b > a then b else a)) else .bad
 | _, _ => .bad
theorem MB (h : br g U w) {ts : Array TypeId} {ty : TypeId} {x y : AV} {v u : Value} (hx : aB g x v) (hy : aB g y u) : aw.Fits C g U (wi x y) ((do let r <- Builtin.max_ ts ty #[v, u]; pure (Next.value r) : Sem Next).run C.P w) := by
 unfold wi
 split
 · split
   · rename_i e; subst e
     simp only [aB] at hx hy; subst hx hy
     simp [Builtin.max_, Builtin.max2]
     exact bo h (by simp only [aB])
   · trivial
 · trivial
theorem MD (h : br g U w) {ts : Array TypeId} {ty : TypeId} {x y : AV} {v u : Value} (hx : aB g x v) (hy : aB g y u) : aw.Fits C g U (ux x y) ((do let r <- Builtin.min_ ts ty #[v, u]; pure (Next.value r) : Sem Next).run C.P w) := by
 unfold ux
 split
 · split
   · rename_i e; subst e
     simp only [aB] at hx hy; subst hx hy
     simp [Builtin.min_, Builtin.min2]
     exact bo h (by simp only [aB])
   · trivial
 · trivial
end
end Go.Rip
namespace Go.Rip
open Go.RowKit
section
variable {C : cV} {g : Gh} {U : St} {w : World}
def fE (place : Nat -> Option (Nat × Nat)) : List (Nat × AV) -> List AV -> (List AV -> aw) -> aw
 | [], z, k => k z
 | (i, x) :: rest, z, k => match place i with
   | some (off, size) => .cond (x.cN = true /\ (aC x).length = size /\ off + size <= z.length) (fE place rest (az z off (aC x)) k)
   | none => .bad
theorem xG (off : Nat) : ∀ (l : List Value) (j : Nat) (cs : Array Value), off + j + l.length <= cs.size ->
 ((l.zipIdx j).foldl (fun (cs : Array Value) (p : Value × Nat) => cs.setIfInBounds (off + p.2) p.1) cs).toList = cs.toList.take (off + j) ++ l ++ cs.toList.drop (off + j + l.length)
 | [], j, cs, _ => by simp
 | v :: l, j, cs, hle => by
   simp only [List.zipIdx_cons, List.foldl_cons]
   simp only [lk] at hle
   rw [xG off l (j + 1) _ (by simp; omega)]
   have hs := list_seg_step cs.toList (off + j) v l (by simpa using hle)
   rw [Array.toList_setIfInBounds]
   rw [show off + (j + 1) = off + j + 1 from rfl]
   exact hs
theorem tC {place : Nat -> Option (Nat × Nat)} {k : List AV -> aw} {kk : Array Value -> Sem Value} {S : String}
 (hk : ∀ (z : List AV) (cs : Array Value), aN g z cs.toList -> (∀ u ∈ cs.toList, u.oneCell' = true) -> aw.Fits C g U (k z) ((do let r <- kk cs; pure (Next.value r) : Sem Next).run C.P w)) :
 ∀ (parts : List (Nat × AV)) (vs : List (Nat × Value)) (z : List AV) (cs : Array Value), vs.length = parts.length -> (∀ (i : Nat) (p : Nat × AV) (q : Nat × Value), parts[i]? = some p -> vs[i]? = some q -> p.1 = q.1 /\ aB g p.2 q.2) ->
  aN g z cs.toList -> (∀ u ∈ cs.toList, u.oneCell' = true) ->
  aw.Fits C g U (fE place parts z k) ((do let r <- (match Instr.fill place cs vs with | some A8 => kk A8 | none => stuck S); pure (Next.value r) : Sem Next).run C.P w)
 | [], [], z, cs, _, _, hz, h1 => by
   simp only [fE, Instr.fill]
   exact hk z cs hz h1
 | [], _ :: _, _, _, h, _, _, _ => by simp at h
 | _ :: _, [], _, _, h, _, _, _ => by simp at h
 | (i, x) :: parts, (j, v) :: vs, z, cs, hl, hp, hz, h1 => by
   obtain ⟨rfl, hx⟩ := hp 0 _ _ rfl rfl
   dsimp only at hx ⊢
   simp only [fE]
   cases oR : place i with
   | none => trivial
   | some os =>
     obtain ⟨off, size⟩ := os
     rintro ⟨a1, a2, a3⟩
     obtain ⟨zC, zD⟩ := xB hx a1
     have hlen := zC.length
     have FT := hz.length
     have DG : v.cells.size = size := by rw [<- rU, hlen, a2]
     have hcz : off + v.cells.size <= cs.size := by rw [DG, <- rU, FT]; exact a3
     have e : (v.cells.zipIdx.foldl (fun (cs : Array Value) (p : Value × Nat) => cs.setIfInBounds (off + p.2) p.1) cs).toList = cs.toList.take off ++ v.cells.toList ++ cs.toList.drop (off + v.cells.toList.length) := by
      rw [<- Array.foldl_toList, Array.toList_zipIdx]
      have := xG off v.cells.toList 0 cs (by simpa using hcz)
      simpa using this
     have aaL : (v.cells.size ≠ size || off + v.cells.size > cs.size) = false := by simp [DG]; omega
     simp only [Instr.fill, oR]
     rw [if_neg (by rw [aaL]; simp)]
     refine tC hk parts vs _ _ (by simpa using hl) (fun i p q h2 h3 => hp (i + 1) p q (by simpa using h2) (by simpa using h3)) ?_ ?_
     · show aN g (az z off (aC x)) (v.cells.zipIdx.foldl (fun (cs : Array Value) (p : Value × Nat) => cs.setIfInBounds (off + p.2) p.1) cs).toList
       rw [e]
       unfold az
       rw [hlen]
       exact ((hz.take _).append zC).append (hz.drop _)
     · show ∀ u ∈ (v.cells.zipIdx.foldl (fun (cs : Array Value) (p : Value × Nat) => cs.setIfInBounds (off + p.2) p.1) cs).toList, u.oneCell' = true
       rw [e]
       intro u hu
       simp only [gg] at hu
       rcases hu with (hu | hu) | hu
       · exact h1 u (List.mem_of_mem_take hu)
       · exact zD u hu
       · exact h1 u (List.mem_of_mem_drop hu)
def lQ (C : cV) (ρ : Env) (parts : Array (Nat × Operand)) : List (Nat × AV) := parts.toList.map fun p => (p.1, ρ.ev C p.2)
def E6 (P : Program) (t : TypeId) (parts : List (Nat × AV)) : aw :=
 match zj P t, pa P t with
 | some pl, some z => fE (fun i => pl[i]?) parts z fun z => .val (.agg z)
 | none, some z => match uh P t with
   | some (_, _, sz) => fE (fun i => some (i * sz, sz)) parts z fun z => .val (.agg z)
   | none => .bad
 | _, _ => .bad
theorem GP {P : Program} {t : TypeId} {pl : List (Nat × Nat)} (h : zj P t = some pl) : ∃ fs : Array Field, P.underlying t = some (.struct fs) /\ pl = fs.toList.map (fun f => (f.offset, P.cellsOf f.type)) /\
 (fs.mapM (fun f => do pure (f.offset, <- sizeOf f.type) : Field -> Sem (Nat × Nat))).run P w = .ok pl.toArray w := by
 unfold zj at h
 split at h
 · rename_i fs hu
   split at h
   · rename_i cq
     simp only [iE] at h
     refine ⟨fs, hu, h.symm, ?_⟩
     rw [Array.mapM_eq_mapM_toList]
     rw [Array.all_eq_true_iff_forall_mem] at cq
     have key : ∀ l : List Field, (∀ f ∈ l, (P.info? f.type).isSome = true) -> (l.mapM (fun f => do pure (f.offset, <- sizeOf f.type) : Field -> Sem (Nat × Nat))).run P w = .ok (l.map fun f => (f.offset, P.cellsOf f.type)) w := by
      intro l
      induction l with
      | nil => intro _; simp
      | cons f l ih =>
        intro hf
        obtain ⟨i, hi⟩ := Option.isSome_iff_exists.1 (hf f (by simp))
        have ih' := ih fun x hx => hf x (by simp [hx])
        have hc : P.cellsOf f.type = i.size := by simp [Program.cellsOf, hi]
        simp only [List.mapM_cons, cA, ez hi, cK, cQ, ih', et, hc]
     have := key fs.toList (fun f hf => cq f (by simpa using hf))
     simp only [Sem.run_map, this, cK, h]
   · cases h
 · cases h
theorem He (h : br g U w) {t : TypeId} {parts : List (Nat × AV)} {vs : Array (Nat × Value)} (hl : vs.size = parts.length) (hp : ∀ (i : Nat) (p : Nat × AV) (q : Nat × Value), parts[i]? = some p -> vs[i]? = some q -> p.1 = q.1 /\ aB g p.2 q.2) :
 aw.Fits C g U (E6 C.P t parts) ((do let r <- Instr.build t vs; pure (Next.value r) : Sem Next).run C.P w) := by
 unfold E6
 split
 · rename_i pl z hs hz
   obtain ⟨fs, hu, oR, gJ⟩ := GP (w := w) hs
   obtain ⟨i, zv, hi, sY, hm⟩ := mJ hz
   obtain ⟨h1, h2⟩ := ey (g := g) hm
   have key := tC (C := C) (g := g) (U := U) (w := w) (place := fun i => pl.toArray[i]?) (k := fun z => .val (.agg z)) (kk := fun cs => pure (.agg cs)) (S := "build: no such field, or a part of the wrong size") (fun z cs hz h1 => by
    simp only [cA, cQ, cK]
    exact bo h (by simp only [aB]; exact ⟨cs.toList, by simp, h1, hz⟩)) parts vs.toList z zv.cells (by simpa using hl) (fun i p q h1 h2 => hp i p q h1 (by simpa using h2)) h1 h2
   have e : (fun i : Nat => pl.toArray[i]?) = fun i => pl[i]? := by funext i; simp
   rw [<- e]
   simp only [Instr.build, cA, gh hi sY, cK, run_underlying hu, gJ]
   cases hf : Instr.fill (fun i : Nat => pl.toArray[i]?) zv.cells vs.toList with
   | none => simp only [hf, cA, run_stuck, Result.andThen_halt] at key ⊢; exact key
   | some A8 => simp only [hf, cA, cQ, cK] at key ⊢; exact key
 · rename_i z hs hz
   split
   · rename_i n e sz ha
     obtain ⟨ie, hu, hie, fi⟩ := tA ha
     obtain ⟨i, zv, hi, sY, hm⟩ := mJ hz
     obtain ⟨h1, h2⟩ := ey (g := g) hm
     have key := tC (C := C) (g := g) (U := U) (w := w) (place := fun i => some (i * sz, sz)) (k := fun z => .val (.agg z)) (kk := fun cs => pure (.agg cs)) (S := "build: a part of the wrong size") (fun z cs hz h1 => by
      simp only [cA, cQ, cK]
      exact bo h (by simp only [aB]; exact ⟨cs.toList, by simp, h1, hz⟩)) parts vs.toList z zv.cells (by simpa using hl) (fun i p q h1 h2 => hp i p q h1 (by simpa using h2)) h1 h2
     simp only [Instr.build, cA, gh hi sY, cK, run_underlying hu, ez hie, fi]
     cases hf : Instr.fill (fun i : Nat => some (i * sz, sz)) zv.cells vs.toList with
     | none => simp only [hf, cA, run_stuck, Result.andThen_halt] at key ⊢; exact key
     | some A8 => simp only [hf, cA, cQ, cK] at key ⊢; exact key
   · trivial
 · trivial
end
end Go.Rip
namespace Go.Rip
open Go.RowKit
section
variable {C : cV} {g : Gh} {U : St} {w : World}
def bB : Nat -> List AV -> List AV
 | 0, _ => []
 | n + 1, z => z ++ bB n z
theorem kL (z : List AV) : ∀ n, (bB n z).length = n * z.length
 | 0 => by simp [bB]
 | n + 1 => by simp [bB, kL z n, Nat.add_mul]; omega
theorem sw {z : List AV} {zv : Array Value} (hz : aN g z zv.toList) : ∀ n, aN g (bB n z) ((Array.range (n * zv.size)).map (zv[· % zv.size]!)).toList := fun n => by
 have hl : z.length = zv.size := by rw [<- hz.length]; simp
 refine aN.BQ (by simp [kL, hl]) fun i x v hx hv => ?_
 have key : ∀ n i x, (bB n z)[i]? = some x -> z[i % zv.size]? = some x := fun n => by
  induction n with
  | zero => intro i x hx; simp [bB] at hx
  | succ n ih =>
    intro i x hx
    simp only [bB] at hx
    by_cases hi : i < z.length
    · rw [wx hi] at hx
      rw [Nat.mod_eq_of_lt (by omega)]; exact hx
    · rw [List.getElem?_append_right (by omega)] at hx
      have := ih _ _ hx
      rw [hl, <- Nat.mod_eq_sub_mod (by omega)] at this
      exact this
 have jF := key n i x hx
 obtain ⟨u, hu, hr⟩ := hz.get jF
 simp only [Array.toList_map, ma, oI] at hv
 obtain ⟨j, hj, rfl⟩ := hv
 have Fy : j = i := by
  rw [kB, Array.getElem?_range] at hj
  split at hj
  · simp at hj; exact hj.symm
  · cases hj
 subst Fy
 have aL : j % zv.size < zv.size := by
  have := (dP.1 hu).1
  simpa using this
 rw [getElem!_pos zv _ aL]
 rw [kB, getElem?_pos zv _ aL] at hu
 cases hu
 exact hr
def ra (P : Program) (t : TypeId) (n : Nat) (mu : Bool) (parts : List (Nat × AV)) : aw :=
 match eO P t with
 | some (e, sz) => match pa P e with
   | some z => .cond (n * sz <= 16777216) (fE (fun i => some (i * sz, sz)) parts (bB n z) fun cs => .cond (cs.length = n * sz) (if mu then .om n sz e none cs else .val (.vec n .full cs)))
   | none => .bad
 | none => .bad
theorem Af (h : br g U w) {t : TypeId} {n : Nat} {mu : Bool} {parts : List (Nat × AV)} {vs : Array (Nat × Value)} (hl : vs.size = parts.length) (hp : ∀ (i : Nat) (p : Nat × AV) (q : Nat × Value), parts[i]? = some p -> vs[i]? = some q -> p.1 = q.1 /\ aB g p.2 q.2) :
 aw.Fits C g U (ra C.P t n mu parts) ((do let r <- Instr.buildSlice t n vs; pure (Next.value r) : Sem Next).run C.P w) := by
 unfold ra
 split
 · rename_i e sz hs
   split
   · rename_i z hz
     intro hn
     obtain ⟨i, zv, hu, hi, nL, xg, rfl, uu, _, h1⟩ := ik hs
     obtain ⟨i', ZM, iM, sY, hm⟩ := mJ hz
     rw [hi] at iM; cases iM
     rw [nL] at sY; cases sY
     obtain ⟨h1, h2⟩ := ey (g := g) hm
     have Q5 : ¬ (n * i.size > 2 ^ 24) := by omega
     have YF := sw (g := g) h1 n
     have key := tC (C := C) (g := g) (U := U) (w := w) (place := fun j => some (j * i.size, i.size)) (k := fun cs => .cond (cs.length = n * i.size) (if mu then .om n i.size e none cs else .val (.vec n .full cs)))
      (kk := fun cs => do pure (.slice (some (<- newRow e cs)) n n)) (S := "buildSlice: a part of the wrong size") (fun z cs hz zC => by
      intro hlen
      have sQ : cs.size = n * i.size := by rw [<- rU, hz.length, hlen]
      have Ym : n <= maxLen := by
       have : n <= n * i.size := Nat.le_mul_of_pos_right _ uu
       unfold maxLen; omega
      simp only [newRow, cA, cQ, run_newObj, cK]
      split
      · have := pV (C := C) (del := none) (e := e) (sz := i.size) (n := n) (c := n) h (vs := cs.toList) (rest := []) hz zC (by simp) (by simp [sQ]) (cG _) Ym
        simpa using this
      · obtain ⟨g', hle, nk, _, _, dT⟩ := h.MH e cs cs.toList [] (by simp) zC
        refine ⟨_, _, g', .inl rfl, hle, dT, ?_⟩
        simp only [aB]
        exact ⟨w.heap.size, 0, n, cs.toList, rfl, cG _, Ym, rfl, nk, hz.mono hle⟩) parts vs.toList (bB n z) ((Array.range (n * zv.cells.size)).map (zv.cells[· % zv.cells.size]!)) (by simpa using hl) (fun i p q h1 h2 => hp i p q h1 (by simpa using h2)) YF (by
        intro u hu
        simp only [Array.toList_map, List.mem_map] at hu
        obtain ⟨j, _, rfl⟩ := hu
        have aL : j % zv.cells.size < zv.cells.size := Nat.mod_lt _ (by omega)
        rw [getElem!_pos zv.cells _ aL]
        exact h2 _ (by simp))
     simp only [Instr.buildSlice, cA, run_underlying hu, ez hi, cK, if_neg Q5, fm, gh hi nL, cQ]
     by_cases h0 : n * i.size = 0
     · have xS : n = 0 := by
        rcases Nat.mul_eq_zero.1 h0 with h | h
        · exact h
        · omega
       subst xS
       simp only [Nat.zero_mul, if_true, cK] at key ⊢
       have e1 : (Array.range 0).map ((#[] : Array Value)[· % (#[] : Array Value).size]!) = (Array.range 0).map (zv.cells[· % zv.cells.size]!) := by simp
       rw [e1]
       cases hf : Instr.fill (fun j => some (j * i.size, i.size)) ((Array.range 0).map (zv.cells[· % zv.cells.size]!)) vs.toList with
       | none => simp only [hf, cA, run_stuck, Result.andThen_halt] at key ⊢; exact key
       | some A8 => simp only [hf, cA, cQ, cK] at key ⊢; exact key
     · simp only [if_neg h0, cK]
       rw [xg] at key ⊢
       cases hf : Instr.fill (fun j => some (j * i.size, i.size)) ((Array.range (n * i.size)).map (zv.cells[· % i.size]!)) vs.toList with
       | none => simp only [hf, cA, run_stuck, Result.andThen_halt] at key ⊢; exact key
       | some A8 => simp only [hf, cA, cQ, cK] at key ⊢; exact key
   · trivial
 · trivial
def p9 (P : Program) (t : TypeId) : Option (FK × TypeId) :=
 match P.underlying t with
 | some (.map k e) => match P.underlying k with
   | some (.int _) => some (.i, e)
   | some .string => some (.s, e)
   | _ => none
 | _ => none
def iw : FK -> AV -> AV -> Option Bool
 | .i, .int k a, .int k' b => if k = k' then some (a == b) else none
 | .s, .str a, .str b => some (a == b)
 | _, _, _ => none
def p6 : FK -> AV -> Bool
 | .i, .int _ _ => true
 | .s, .str _ => true
 | _, _ => false
def lH (fk : FK) (k : AV) : List AV -> Nat -> Option (Option Nat)
 | [], _ => some none
 | y :: ys, i => match iw fk k y with
   | none => none
   | some b => if b = true then some (some i) else lH fk k ys (i + 1)
def gw (k v : AV) : List AV -> List AV -> List AV × List AV
 | [], _ => ([k], [v])
 | y :: ys, ws => if iZ k y = true then (k :: y :: ys, v :: ws) else
   match ws with
   | [] => ([k], [v])
   | x :: xs => (y :: (gw k v ys xs).1, x :: (gw k v ys xs).2)
def qd (P : Program) (t : TypeId) (m k v : AV) (U : St) : aw :=
 match p9 P t, m with
 | some (fk, _), .mp id => match U.mp id with
   | some (ks, vs) => match lH fk k ks 0, p6 fk k with
     | some none, true => .kW (.aU []) id (.mp (gw k v ks vs).1 (gw k v ks vs).2)
     | some (some i), true => .kW (.aU []) id (.mp ks (vs.set i v))
     | _, _ => .bad
   | none => .bad
 | _, _ => .bad
def mq (U : St) : AV -> Option (List AV × List AV)
 | .mp id => U.mp id
 | .fS ks vs => some (ks, vs)
 | .kx => some ([], [])
 | _ => none
def p8 (fk : FK) (k : AV) (xD : AV) (ok : Bool) : List AV -> List AV -> aw
 | y :: ys, v :: vs => match iw fk k y with
   | none => .bad
   | some b => if b = true then .val (if ok then .aU [v, .bool true] else v) else p8 fk k xD ok ys vs
 | _, _ => .val (if ok then .aU [xD, .bool false] else xD)
def zeroV (P : Program) (t : TypeId) : Option AV := ((P.info? t).bind (·.zero)).map Dk
def ve (P : Program) (t : TypeId) (m k : AV) (ok : Bool) (U : St) : aw :=
 match p9 P t, mq U m with
 | some (fk, e), some (ks, vs) => match zeroV P e, p6 fk k with
   | some z, true => p8 fk k z ok ks vs
   | _, _ => .bad
 | _, _ => .bad
theorem x8 {P : Program} {t e : TypeId} {fk : FK} (h : p9 P t = some (fk, e)) : ∃ k, P.underlying t = some (.map k e) /\ ((fk = .i /\ ∃ q, P.underlying k = some (.int q)) \/ (fk = .s /\ P.underlying k = some .string)) := by
 unfold p9 at h
 split at h
 · rename_i k e' hu
   split at h
   · rename_i q hq
     simp only [iE, lq] at h
     obtain ⟨rfl, rfl⟩ := h
     exact ⟨k, hu, .inl ⟨rfl, q, hq⟩⟩
   · rename_i hq
     simp only [iE, lq] at h
     obtain ⟨rfl, rfl⟩ := h
     exact ⟨k, hu, .inr ⟨rfl, hq⟩⟩
   · cases h
 · cases h
theorem sf {P : Program} {k : TypeId} {fk : FK} {d : TypeDesc} (hd : P.underlying k = some d) (hk : (fk = .i /\ ∃ q, d = .int q) \/ (fk = .s /\ d = .string)) {x y : AV} {u v : Value} {b : Bool} (hx : aB g x u) (hy : aB g y v) (h : iw fk x y = some b) :
 Instr.sameNow d u v = some b := by
 rcases hk with ⟨rfl, q, rfl⟩ | ⟨rfl, rfl⟩ <;> cases x <;> cases y <;> simp only [iw, reduceCtorEq] at h
 · split at h
   · rename_i e; subst e
     simp only [aB] at hx hy; subst hx hy
     simp at h; subst h
     simp [Instr.sameNow]
   · cases h
 · simp only [aB] at hx hy; subst hx hy
   simp only [iE] at h; subst h
   simp only [Instr.sameNow, beq_toListBytes, ByteArray.toList_eq, List.toList_toArray]
theorem findNow_spec {d : TypeDesc} {u : Value} : ∀ (es : List MapEntry) (i : Nat), (∀ e ∈ es, ∃ b, Instr.sameNow d u e.key = some b) ->
 ((∀ e ∈ es, Instr.sameNow d u e.key = some false) /\ Instr.findNow d u es i = some none) \/
 (∃ j e, es[j]? = some e /\ Instr.sameNow d u e.key = some true /\ Instr.findNow d u es i = some (some (i + j, e.val)))
 | [], i, _ => .inl ⟨by simp, by simp [Instr.findNow]⟩
 | e :: es, i, h => by
   obtain ⟨b, hb⟩ := h e (by simp)
   cases b
   · rcases findNow_spec es (i + 1) (fun x hx => h x (by simp [hx])) with ⟨h1, h2⟩ | ⟨j, e', h1, h2, h3⟩
     · refine .inl ⟨fun x hx => ?_, by simp [Instr.findNow, hb, h2]⟩
       rcases fC.1 hx with rfl | hx
       · exact hb
       · exact h1 x hx
     · exact .inr ⟨j + 1, e', by simpa using h1, h2, by simp [Instr.findNow, hb, h3]; omega⟩
   · exact .inr ⟨0, e, by simp, hb, by simp [Instr.findNow, hb]⟩
theorem uv {fk : FK} {k y : AV} (h : iw fk k y = some true) : k = y := by
 cases fk <;> cases k <;> cases y <;> simp only [iw, reduceCtorEq] at h
 · split at h
   · rename_i e; subst e; simp at h; rw [h]
   · cases h
 · simp at h; rw [h]
theorem J7 (k : AV) : iZ k k = false := by
 cases k <;> simp [iZ]
theorem Hx {a b c : AV} (h : iZ a b = true) (h' : iZ b c = true) : iZ a c = true := by
 cases a <;> cases b <;> simp only [iZ, bH] at h <;> cases c <;> simp only [iZ, bH, cF, ej] at h h' ⊢
 · exact ⟨h.1.trans h'.1, by omega⟩
 · exact List.lt_trans h h'
theorem Rh {fk : FK} {k y : AV} (h : iw fk k y = some false) : iZ k y = true \/ iZ y k = true := by
 cases fk <;> cases k <;> cases y <;> simp only [iw, reduceCtorEq] at h
 · split at h
   · rename_i e; subst e; simp at h; simp [iZ]; omega
   · cases h
 · simp at h
   simp only [iZ, ej]
   rcases Classical.em ((_ : List UInt8) < _) with hl | hl
   · exact .inl hl
   · refine .inr ?_
     rcases Classical.em ((_ : List UInt8) < _) with rE | rE
     · exact rE
     · exact absurd (List.le_antisymm (List.not_lt.1 rE) (List.not_lt.1 hl)) h
theorem BI {fk : FK} {k y z : AV} (h : iw fk k y = some true) (hz : iZ y z = true \/ iZ z y = true) : ∃ b, iw fk k z = some b := by
 have := uv h
 subst this
 cases fk <;> cases k <;> cases z <;> simp [iw, iZ] at h hz ⊢
 rcases hz with ⟨e, _⟩ | ⟨e, _⟩
 · exact e
 · exact e.symm
theorem vP {fk : FK} {k : AV} : ∀ {ks : List AV} {s : Nat} {r : Option Nat}, lH fk k ks s = some r ->
 (r = none /\ ∀ y ∈ ks, iw fk k y = some false) \/ (∃ i, r = some (s + i) /\ ∃ y, ks[i]? = some y /\ iw fk k y = some true)
 | [], s, r, h => by simp only [lH, iE] at h; exact .inl ⟨h.symm, by simp⟩
 | y :: ys, s, r, h => by
   simp only [lH] at h
   split at h
   · cases h
   · rename_i b hb
     cases b
     · simp only [bH, if_false] at h
       rcases vP h with ⟨h1, h2⟩ | ⟨i, h1, z, h2, h3⟩
       · refine .inl ⟨h1, fun z hz => ?_⟩
         rcases fC.1 hz with rfl | hz
         · exact hb
         · exact h2 z hz
       · exact .inr ⟨i + 1, by rw [h1]; congr 1; omega, z, by simpa using h2, h3⟩
     · simp only [if_true, iE] at h
       exact .inr ⟨0, by rw [<- h]; rfl, y, by simp, hb⟩
theorem KL {ks : List AV} (h : oM ks) {i j : Nat} {y : AV} (hi : ks[i]? = some y) (hj : ks[j]? = some y) : i = j := by
 have key : ∀ i j, i < j -> ks[i]? = some y -> ks[j]? = some y -> False := fun i j dt hi hj => by
  obtain ⟨h1, h2⟩ := dP.1 hi
  obtain ⟨h3, h4⟩ := dP.1 hj
  have := List.pairwise_iff_getElem.1 h i j h1 h3 dt
  rw [h2, h4, J7] at this; cases this
 rcases Nat.lt_trichotomy i j with h | h | h
 · exact (key i j h hi hj).elim
 · exact h
 · exact (key j i h hj hi).elim
theorem Ai {P : Program} {kt : TypeId} {fk : FK} {d : TypeDesc} (hd : P.underlying kt = some d) (hk : (fk = .i /\ ∃ q, d = .int q) \/ (fk = .s /\ d = .string)) {x : AV} {u : Value} (hx : aB g x u)
 {ks : List AV} {l es : List MapEntry} (hp : l.Perm es) (hs : oM ks) (hr : aN g ks (l.map (·.key))) {r : Option Nat} (h : lH fk x ks 0 = some r) :
 (r = none /\ (∀ y ∈ ks, iw fk x y = some false) /\ ∀ i, Instr.findNow d u es i = some none) \/
 (∃ i j e, r = some i /\ ks[i]? = some x /\ l[i]? = some e /\ es[j]? = some e /\ aB g x e.key /\ ∀ s, Instr.findNow d u es s = some (some (s + j, e.val))) := by
 have mem : ∀ e ∈ es, ∃ i y, ks[i]? = some y /\ l[i]? = some e /\ aB g y e.key := fun e he => by
  obtain ⟨i, hi⟩ := List.getElem?_of_mem (hp.mem_iff.2 he)
  have aL : i < ks.length := by
   have h1 := (dP.1 hi).1
   have := hr.length
   simp at this; omega
  obtain ⟨v, hv, L7⟩ := hr.get (i := i) (x := ks[i]) (jQ aL)
  rw [ma, hi] at hv
  simp at hv
  subst hv
  exact ⟨i, ks[i], jQ aL, hi, L7⟩
 rcases vP h with ⟨rfl, h1⟩ | ⟨i, rfl, y, h1, h2⟩
 · refine .inl ⟨rfl, h1, fun s => ?_⟩
   have hf : ∀ e ∈ es, Instr.sameNow d u e.key = some false := fun e he => by
    obtain ⟨i, y, hy, _, Ma⟩ := mem e he
    exact sf (P := P) hd hk hx Ma (h1 y (gK hy))
   rcases findNow_spec es s (fun e he => ⟨_, hf e he⟩) with ⟨_, h2⟩ | ⟨j, e, q1, q2, _⟩
   · exact h2
   · rw [hf e (gK q1)] at q2; cases q2
 · have zI := uv h2
   subst zI
   have all : ∀ z ∈ ks, ∃ b, iw fk x z = some b := fun z hz => by
    obtain ⟨j, hj⟩ := List.getElem?_of_mem hz
    rcases Nat.lt_trichotomy i j with dt | dt | dt
    · obtain ⟨a1, a2⟩ := dP.1 h1
      obtain ⟨a3, a4⟩ := dP.1 hj
      have := List.pairwise_iff_getElem.1 hs i j a1 a3 dt
      rw [a2, a4] at this
      exact BI h2 (.inl this)
    · subst dt; rw [h1] at hj; cases hj; exact ⟨_, h2⟩
    · obtain ⟨a1, a2⟩ := dP.1 h1
      obtain ⟨a3, a4⟩ := dP.1 hj
      have := List.pairwise_iff_getElem.1 hs j i a3 a1 dt
      rw [a2, a4] at this
      exact BI h2 (.inr this)
   have same : ∀ e ∈ es, ∃ b, Instr.sameNow d u e.key = some b := fun e he => by
    obtain ⟨i, y, hy, _, Ma⟩ := mem e he
    obtain ⟨b, hb⟩ := all y (gK hy)
    exact ⟨b, sf (P := P) hd hk hx Ma hb⟩
   have FC : ∃ e0, l[i]? = some e0 /\ aB g x e0.key := by
    obtain ⟨v, hv, L7⟩ := hr.get h1
    rw [ma, oI] at hv
    obtain ⟨e0, h3, rfl⟩ := hv
    exact ⟨e0, h3, L7⟩
   obtain ⟨e0, u1, X2⟩ := FC
   have h0s : Instr.sameNow d u e0.key = some true := sf (P := P) hd hk hx X2 h2
   have h0m : e0 ∈ es := hp.mem_iff.1 (gK u1)
   have pick : ∀ s, ∃ j, es[j]? = some e0 /\ Instr.findNow d u es s = some (some (s + j, e0.val)) := fun s => by
    rcases findNow_spec es s same with ⟨q1, _⟩ | ⟨j, e, q1, q2, q3⟩
    · rw [q1 e0 h0m] at h0s; cases h0s
    · obtain ⟨i', y, hy, tI, Ma⟩ := mem e (gK q1)
      obtain ⟨b, hb⟩ := all y (gK hy)
      have LW := sf (P := P) hd hk hx Ma hb
      rw [q2] at LW
      simp only [iE] at LW
      subst LW
      have zI := uv hb
      subst zI
      have hii := KL hs h1 hy
      subst hii
      rw [u1] at tI; cases tI
      exact ⟨j, q1, q3⟩
   obtain ⟨j, hj, hjf⟩ := pick 0
   refine .inr ⟨i, j, e0, by rw [bW], h1, u1, hj, X2, fun s => ?_⟩
   have shift : ∀ (es : List MapEntry) (a b : Nat) j v, Instr.findNow d u es a = some (some (a + j, v)) -> Instr.findNow d u es b = some (some (b + j, v)) := fun es => by
    induction es with
    | nil => intro a b j v h; simp [Instr.findNow] at h
    | cons e es ih =>
      intro a b j v h
      simp only [Instr.findNow] at h ⊢
      cases LX : Instr.sameNow d u e.key with
      | none => rw [LX] at h; cases h
      | some t =>
        rw [LX] at h
        cases t
        · dsimp only at h ⊢
          have hle : ∀ (es : List MapEntry) (a : Nat) r v, Instr.findNow d u es a = some (some (r, v)) -> a <= r := fun es => by
           induction es with
           | nil => intro a r v h; simp [Instr.findNow] at h
           | cons e es ih =>
             intro a r v h
             simp only [Instr.findNow] at h
             cases LX : Instr.sameNow d u e.key with
             | none => rw [LX] at h; cases h
             | some t =>
               rw [LX] at h
               cases t
               · have := ih _ _ _ h; omega
               · simp at h; omega
          have h1 := hle _ _ _ _ h
          have := ih (a + 1) (b + 1) (j - 1) v (by rw [h]; congr 3; omega)
          rw [this]; congr 3; omega
        · simp at h ⊢; obtain ⟨h1, h2⟩ := h; exact ⟨by omega, h2⟩
   exact shift es 0 s j _ hjf
theorem RD {α : Type} {l m : List α} (h : l.Perm m) {i j : Nat} {e : α} (hi : l[i]? = some e) (hj : m[j]? = some e) (e' : α) : (l.set i e').Perm (m.set j e') := by
 obtain ⟨h1, h2⟩ := dP.1 hi
 obtain ⟨h3, h4⟩ := dP.1 hj
 have el : l = l.take i ++ e :: l.drop (i + 1) := by
  conv => lhs; rw [<- List.take_append_drop i l, gX h1, h2]
 have em : m = m.take j ++ e :: m.drop (j + 1) := by
  conv => lhs; rw [<- List.take_append_drop j m, gX h3, h4]
 rw [List.set_eq_take_append_cons_drop, if_pos h1, List.set_eq_take_append_cons_drop, if_pos h3]
 have hp : (l.take i ++ e :: l.drop (i + 1)).Perm (m.take j ++ e :: m.drop (j + 1)) := by rw [<- el, <- em]; exact h
 have h5 := (List.perm_middle.symm.trans hp).trans List.perm_middle
 have h6 := List.Perm.cons_inv h5
 exact (List.perm_middle.trans (h6.cons e')).trans List.perm_middle.symm
theorem run_checkKey {P : Program} {k : TypeId} {d : TypeDesc} {em : Bool} (hd : P.underlying k = some d) (hk : (∃ q, d = .int q) \/ d = .string) (n : Nat) (v : Value) : (Instr.checkKey em (n + 1) k v).run P w = .ok () w := by
 rcases hk with ⟨q, rfl⟩ | rfl <;> simp [Instr.checkKey, run_underlying hd]
theorem aN.set : ∀ {l : List AV} {vs : List Value} {x : AV} {u : Value} (i : Nat), aN g l vs -> aB g x u -> aN g (l.set i x) (vs.set i u)
 | [], _, _, _, _, h, _ => by simp only [aN] at h; subst h; simp [aN]
 | y :: ys, _, x, u, 0, h, hx => by
   simp only [aN] at h
   obtain ⟨v, vs, rfl, h1, h2⟩ := h
   simp only [List.set_cons_zero, aN]
   exact ⟨u, vs, rfl, hx, h2⟩
 | y :: ys, _, x, u, i + 1, h, hx => by
   simp only [aN] at h
   obtain ⟨v, vs, rfl, h1, h2⟩ := h
   simp only [List.set_cons_succ, aN]
   exact ⟨v, _, rfl, h1, aN.set i h2 hx⟩
theorem F0 {k v : AV} {e : MapEntry} (hk : aB g k e.key) (hv : aB g v e.val) : ∀ (ks vs : List AV) (l : List MapEntry), aN g ks (l.map (·.key)) -> aN g vs (l.map (·.val)) ->
 ∃ l' : List MapEntry, l'.Perm (e :: l) /\ aN g (gw k v ks vs).1 (l'.map (·.key)) /\ aN g (gw k v ks vs).2 (l'.map (·.val))
 | [], vs, l, h1, h2 => by
   simp only [aN, List.map_eq_nil_iff] at h1
   subst h1
   exact ⟨[e], List.Perm.refl _, by simp only [gw, et, jk, aN]; exact ⟨_, _, rfl, hk, rfl⟩, by simp only [gw, et, jk, aN]; exact ⟨_, _, rfl, hv, rfl⟩⟩
 | y :: ks, vs, [], h1, h2 => by simp [aN] at h1
 | y :: ks, [], f :: l, h1, h2 => by simp [aN] at h2
 | y :: ks, x :: vs, f :: l, h1, h2 => by
   simp only [gw]
   by_cases aL : iZ k y = true
   · rw [if_pos aL]
     exact ⟨e :: f :: l, List.Perm.refl _, by rw [et]; simp only [aN] at h1 ⊢; exact ⟨_, _, rfl, hk, h1⟩, by rw [et]; simp only [aN] at h2 ⊢; exact ⟨_, _, rfl, hv, h2⟩⟩
   · rw [if_neg aL]
     simp only [aN, et, List.cons.injEq] at h1 h2
     obtain ⟨_, _, ⟨rfl, rfl⟩, hy, h1⟩ := h1
     obtain ⟨_, _, ⟨rfl, rfl⟩, hx, h2⟩ := h2
     obtain ⟨l', h3, h4, h5⟩ := F0 hk hv ks vs l h1 h2
     exact ⟨f :: l', ((h3.cons f).trans (List.Perm.swap e f l)), by simp only [et, aN]; exact ⟨_, _, rfl, hy, h4⟩, by simp only [et, aN]; exact ⟨_, _, rfl, hx, h5⟩⟩
theorem vX {k v : AV} : ∀ (ks vs : List AV) (z : AV), z ∈ (gw k v ks vs).1 -> z = k \/ z ∈ ks
 | [], vs, z, h => by simp [gw] at h; exact .inl h
 | y :: ks, vs, z, h => by
   simp only [gw] at h
   split at h
   · simpa using h
   · split at h
     · simp at h; exact .inl h
     · rename_i x xs
       simp only [fC] at h ⊢
       rcases h with h | h
       · exact .inr (.inl h)
       · rcases vX ks xs z h with h | h
         · exact .inl h
         · exact .inr (.inr h)
theorem zK {k v : AV} : ∀ (ks vs : List AV), oM ks -> (∀ y ∈ ks, iZ k y = true \/ iZ y k = true) -> oM (gw k v ks vs).1
 | [], vs, h1, h2 => by simp [gw, oM]
 | y :: ks, vs, h1, h2 => by
   unfold oM at h1 ⊢
   rw [List.pairwise_cons] at h1
   simp only [gw]
   split
   · rename_i aL
     rw [List.pairwise_cons, List.pairwise_cons]
     refine ⟨fun z hz => ?_, h1⟩
     rcases fC.1 hz with rfl | hz
     · exact aL
     · exact Hx aL (h1.1 z hz)
   · rename_i aL
     split
     · simp
     · rename_i x xs
       rw [List.pairwise_cons]
       refine ⟨fun z hz => ?_, zK ks xs h1.2 fun z hz => h2 z (by simp [hz])⟩
       rcases vX ks xs z hz with rfl | hz
       · rcases h2 y (by simp) with h | h
         · exact absurd h aL
         · exact h
       · exact h1.1 z hz
theorem kg.push {es : Array MapEntry} {clock : Nat} (h : kg es clock) (k v : Value) : kg (es.push ⟨k, v, clock⟩) (clock + 1) := by
 obtain ⟨h1, h2⟩ := h
 refine ⟨?_, fun e he => ?_⟩
 · simp only [Array.toList_push, List.map_append, et, jk]
   rw [List.nodup_append]
   refine ⟨h1, by simp, fun a ha b hb => ?_⟩
   simp at hb
   subst hb
   obtain ⟨e, he, rfl⟩ := List.mem_map.1 ha
   exact Nat.ne_of_lt (h2 e he)
 · simp only [Array.toList_push, gg, nS] at he
   rcases he with he | rfl
   · have := h2 e he; omega
   · simp
theorem zr {es : Array MapEntry} {j : Nat} {e : MapEntry} (hj : es.toList[j]? = some e) (f : MapEntry -> MapEntry) : (es.modify j f).toList = es.toList.set j (f e) := by
 apply List.ext_getElem?
 intro i
 simp only [Array.toList_modify, List.getElem?_modify, List.getElem?_set]
 by_cases dt : j = i
 · subst dt
   have aL := (dP.1 hj).1
   simp only [if_true, hj, if_pos aL]; rfl
 · simp only [if_neg dt]
   cases es.toList[i]? <;> rfl
theorem kg.modify {es uU : Array MapEntry} {clock : Nat} (h : kg es clock) {j : Nat} {e e' : MapEntry} (hj : es.toList[j]? = some e) (hb : e'.born = e.born) (he : uU.toList = es.toList.set j e') : kg uU clock := by
 have hm : uU.toList.map (·.born) = es.toList.map (·.born) := by
  rw [he, List.map_set, hb]
  apply List.ext_getElem?
  intro i
  rw [List.getElem?_set]
  split
  · rename_i dt
    subst dt
    rw [ma, hj]
    have aL := (dP.1 hj).1
    simp at aL ⊢; exact aL
  · rfl
 refine ⟨by rw [hm]; exact h.1, fun x hx => ?_⟩
 have : x.born ∈ uU.toList.map (·.born) := List.mem_map_of_mem hx
 rw [hm] at this
 obtain ⟨y, hy, hy2⟩ := List.mem_map.1 this
 rw [<- hy2]; exact h.2 y hy
theorem tR (h : br g U w) {t : TypeId} {m k x : AV} {vm vk vx : Value} (hm : aB g m vm) (hk : aB g k vk) (hx : aB g x vx) :
 aw.Fits C g U (qd C.P t m k x U) ((do Instr.mapUpdate t vm vk vx; pure Next.skip : Sem Next).run C.P w) := by
 unfold qd
 split
 · rename_i fk e id ht
   split
   · rename_i ks vs FD
     obtain ⟨kt, hu, Yg⟩ := x8 ht
     obtain ⟨d, hd, zG⟩ : ∃ d, C.P.underlying kt = some d /\ ((fk = .i /\ ∃ q, d = .int q) \/ (fk = .s /\ d = .string)) := by
      rcases Yg with ⟨rfl, q, hq⟩ | ⟨rfl, hq⟩
      · exact ⟨_, hq, .inl ⟨rfl, q, rfl⟩⟩
      · exact ⟨_, hq, .inr ⟨rfl, rfl⟩⟩
     have Q3 : (∃ q, d = .int q) \/ d = .string := zG.imp (·.2) (·.2)
     simp only [aB] at hm
     obtain ⟨r, hr, rfl⟩ := hm
     obtain ⟨r', es, clock, q1, q2, q3, qb, ⟨l, q4, q5, q6, q7⟩, q8⟩ := h.mp id _ FD
     rw [hr] at q1; cases q1
     have rR : (getObj r).run C.P w = .ok (.map es clock) w := by simp [getObj, Sem.run, q3]
     have LC := run_checkKey (P := C.P) (w := w) (em := false) hd Q3 9999 vk
     have vT : ∀ o, (setObj r o).run C.P w = .ok () { w with heap := w.heap.setIfInBounds r o } := fun o => by simp [setObj, Sem.run, q3]
     split
     · rename_i hf Il
       rcases Ai (P := C.P) hd zG hk q4 q5 q6 hf with ⟨_, ha, hn⟩ | ⟨i, _, _, he, _⟩
       · simp only [Instr.mapUpdate, cA, run_underlying hu, cK, rR, LC, Instr.findKey, run_underlying hd, hn, cQ, vT]
         obtain ⟨l', p1, p2, p3⟩ := F0 (e := ⟨vk, vx, clock⟩) hk hx ks vs l q6 q7
         refine ⟨undef, _, g, .inr ⟨rfl, rfl⟩, Gh.Le.refl g, h.M5 FD (kv' := gw k x ks vs) hr q3 ⟨l', ?_, ?_, p2, p3⟩ (qb.push vk vx), by simp only [aB]; exact ⟨[], rfl, by simp [aN]⟩⟩
         · rw [Array.toList_push]
           exact (p1.trans (q4.cons _)).trans (List.perm_append_singleton _ _).symm
         · exact zK ks vs q5 fun y hy => Rh (ha y hy)
       · cases he
     · rename_i i hf Il
       rcases Ai (P := C.P) hd zG hk q4 q5 q6 hf with ⟨he, _⟩ | ⟨i', j, e, he, Yf, FC, LH, SZ, hn⟩
       · cases he
       · cases he
         have xS := hn 0
         rw [bW] at xS
         have aL : j < es.size := by
          have := (dP.1 LH).1
          simpa using this
         have abO : es[j]? = some e := by rw [<- kB]; exact LH
         have aaW : Instr.sameBits 10000 e.key vk = true := by
          rcases zG with ⟨rfl, _⟩ | ⟨rfl, _⟩ <;> cases k <;> simp only [p6, bH] at Il
          · simp only [aB] at hk SZ; rw [hk, SZ]; simp [Instr.sameBits]
          · simp only [aB] at hk SZ; rw [hk, SZ]; simp [Instr.sameBits, beq_toListBytes]
         have LW : (Instr.keyThatStays e.key vk).run C.P w = .ok vk w := by simp [Instr.keyThatStays, aaW]
         have abV : ((es[j]?).map (·.key)).getD vk = e.key := by rw [abO]; rfl
         simp only [Instr.mapUpdate, cA, run_underlying hu, cK, rR, LC, Instr.findKey, run_underlying hd, xS, cQ, vT, abV, LW]
         have Yj := zr LH (fun e => { e with key := vk, val := vx })
         refine ⟨undef, _, g, .inr ⟨rfl, rfl⟩, Gh.Le.refl g, h.M5 FD (kv' := (ks, vs.set i x)) hr q3 ⟨l.set i { e with key := vk, val := vx }, ?_, q5, ?_, ?_⟩ (qb.modify (e' := { e with key := vk, val := vx }) LH rfl Yj), by simp only [aB]; exact ⟨[], rfl, by simp [aN]⟩⟩
         · rw [Yj]; exact RD q4 FC LH _
         · rw [List.map_set]
           have := q6.set i hk
           have e1 : ks.set i k = ks := by
            apply List.ext_getElem?
            intro a
            rw [List.getElem?_set]
            split
            · rename_i ha; subst ha
              split
              · exact Yf.symm
              · rename_i hn; exact absurd (dP.1 Yf).1 hn
            · rfl
           rw [e1] at this; exact this
         · rw [List.map_set]; exact q7.set i hx
     · trivial
   · trivial
 · trivial
theorem BL {fk : FK} {k z : AV} {ok : Bool} : ∀ (ks vs : List AV) (s : Nat), ks.length = vs.length -> p8 fk k z ok ks vs = (match lH fk k ks s with
 | none => .bad
 | some none => .val (if ok then .aU [z, .bool false] else z)
 | some (some i) => .val (if ok then .aU [vs.getD (i - s) z, .bool true] else vs.getD (i - s) z))
 | [], [], s, _ => by simp [p8, lH]
 | [], _ :: _, s, h => by simp at h
 | _ :: _, [], s, h => by simp at h
 | y :: ks, v :: vs, s, h => by
   simp only [p8, lH]
   cases hb : iw fk k y with
   | none => rfl
   | some b =>
     cases b
     · simp only [bH, if_false]
       rw [BL ks vs (s + 1) (by simpa using h)]
       cases hf : lH fk k ks (s + 1) with
       | none => rfl
       | some r =>
         cases r with
         | none => rfl
         | some i =>
           rcases vP hf with ⟨h1, _⟩ | ⟨i', h1, _⟩
           · cases h1
           · cases h1
             have e1 : s + 1 + i' - (s + 1) = i' := by omega
             have e2 : s + 1 + i' - s = i' + 1 := by omega
             simp only [e1, e2, List.getD_cons_succ]
     · simp only [if_true, Nat.sub_self, List.getD_cons_zero]
theorem F9 (h : br g U w) {t : TypeId} {m k : AV} {vm vk : Value} {ok : Bool} (hm : aB g m vm) (hk : aB g k vk) :
 aw.Fits C g U (ve C.P t m k ok U) ((do let r <- Instr.lookup t vm vk ok; pure (Next.value r) : Sem Next).run C.P w) := by
 unfold ve
 split
 · rename_i fk e ks vs ht he
   split
   · rename_i z hz Il
     obtain ⟨kt, hu, Yg⟩ := x8 ht
     obtain ⟨d, hd, zG⟩ : ∃ d, C.P.underlying kt = some d /\ ((fk = .i /\ ∃ q, d = .int q) \/ (fk = .s /\ d = .string)) := by
      rcases Yg with ⟨rfl, q, hq⟩ | ⟨rfl, hq⟩
      · exact ⟨_, hq, .inl ⟨rfl, q, rfl⟩⟩
      · exact ⟨_, hq, .inr ⟨rfl, rfl⟩⟩
     have Q3 : (∃ q, d = .int q) \/ d = .string := zG.imp (·.2) (·.2)
     obtain ⟨i, vz, hi, sY, Mb⟩ : ∃ i vz, C.P.info? e = some i /\ i.zero = some vz /\ Dk vz = z := by
      unfold zeroV at hz
      cases hi : C.P.info? e with
      | none => simp [hi] at hz
      | some i =>
        cases nL : i.zero with
        | none => simp [hi, nL] at hz
        | some vz => simp [hi, nL] at hz; exact ⟨i, vz, rfl, nL, hz⟩
     have Tw : aB g z vz := by rw [<- Mb]; exact CB vz
     obtain ⟨es, xM, l, hp, ab5, h1, h2⟩ : ∃ es : Array MapEntry, ((vm = .map none /\ es = #[]) \/ ∃ r clock, vm = .map (some r) /\ w.heap[r]? = some (Obj.map es clock)) /\ vJ g ks vs es := by
      cases m <;> simp only [mq, reduceCtorEq, iE, lq] at he
      · obtain ⟨rfl, rfl⟩ := he
        simp only [aB] at hm; subst hm
        exact ⟨#[], .inl ⟨rfl, rfl⟩, [], List.Perm.refl _, by simp [oM], by simp [aN], by simp [aN]⟩
      · simp only [aB] at hm
        obtain ⟨r, hr, rfl⟩ := hm
        obtain ⟨r', es, clock, q1, q2, q3, _, q4, _⟩ := h.mp _ _ he
        rw [hr] at q1; cases q1
        exact ⟨es, .inr ⟨r, clock, rfl, q3⟩, q4⟩
      · obtain ⟨rfl, rfl⟩ := he
        simp only [aB] at hm
        obtain ⟨r, es, clock, l, rfl, hr, q0, q1, q2, q3⟩ := hm
        exact ⟨es, .inr ⟨r, clock, rfl, (h.bZ r es clock hr).1⟩, l, q0, q1, q2, q3⟩
     have hlen : ks.length = vs.length := by
      have a := h1.length
      have b := h2.length
      simp at a b; omega
     rw [BL ks vs 0 hlen]
     cases hf : lH fk k ks 0 with
     | none => trivial
     | some r =>
       have LC := run_checkKey (P := C.P) (w := w) (em := es.isEmpty) hd Q3 9999 vk
       have key := Ai (P := C.P) hd zG hk hp ab5 h1 hf
       have fin : ∀ q : Option (Nat × Value), Instr.findNow d vk es.toList 0 = some q -> (Instr.lookup t vm vk ok).run C.P w = (match q with
        | some (_, v) => .ok (if ok then .tuple #[v, .bool true] else v) w
        | none => .ok (if ok then .tuple #[vz, .bool false] else vz) w) := fun q hq => by
        rcases xM with ⟨rfl, rfl⟩ | ⟨r, clock, rfl, hh⟩
        · simp only [Instr.lookup, cA, run_underlying hu, cK, cQ, LC, Instr.findKey, run_underlying hd, hq]
          cases q with
          | none => simp only [cQ, cK, cA, gh hi sY]
          | some p => rfl
        · have rR : (getObj r).run C.P w = .ok (Obj.map es clock) w := by simp [getObj, Sem.run, hh]
          simp only [Instr.lookup, cA, run_underlying hu, cK, cQ, rR, LC, Instr.findKey, run_underlying hd, hq]
          cases q with
          | none => simp only [cQ, cK, cA, gh hi sY]
          | some p => rfl
       rcases key with ⟨rfl, _, hn⟩ | ⟨i, j, e, rfl, _, FC, _, _, hn⟩
       · simp only [cA, fin _ (hn 0), cK, cQ]
         refine bo h ?_
         cases ok
         · exact Tw
         · simp only [if_true, aB]
           exact ⟨[vz, .bool false], rfl, by simp only [aN]; exact ⟨_, _, rfl, Tw, _, _, rfl, by simp only [aB], rfl⟩⟩
       · simp only [cA, fin _ (hn 0), cK, cQ, Nat.sub_zero]
         have hv : aB g (vs.getD i z) e.val := by
          have aL : i < vs.length := by
           have a := (dP.1 FC).1
           have b := h2.length
           simp at b; omega
          obtain ⟨v, hv, L7⟩ := h2.get (i := i) (x := vs[i]) (jQ aL)
          rw [ma, FC] at hv
          simp at hv
          subst hv
          have : vs.getD i z = vs[i] := by simp [uC, aL]
          rw [this]; exact L7
         refine bo h ?_
         cases ok
         · exact hv
         · simp only [if_true, aB]
           exact ⟨[e.val, .bool true], rfl, by simp only [aN]; exact ⟨_, _, rfl, hv, _, _, rfl, by simp only [aB], rfl⟩⟩
   · trivial
 · trivial
theorem Ko (h : br g U w) : aw.Fits C g U .EC (.ok (.value (.map (some w.heap.size))) (w.alloc (.map #[] 0))) := by
 obtain ⟨b, g', h1, h2, h3, h4⟩ := h.tc (.map #[] 0) 0 0 (.mp [] []) fun g' hle hi hm => ⟨#[], 0, heap_alloc_new w _, ⟨by simp, by simp⟩, ⟨[], List.Perm.refl _, by simp [oM], by simp [aN], by simp [aN]⟩, hm⟩
 exact ⟨_, _, g', b, rfl, h1, h2, h4, by simp only [NV.at, aB]; exact ⟨_, Gh.oV.2 ⟨_, h3, rfl⟩, rfl⟩⟩
end
end Go.Rip
namespace Go.Rip
open Go.RowKit
def aY (c a b : AV) : aw :=
 match c with
 | .bool t => .val (if t = true then a else b)
 | _ => .bad
def y5 (P : Program) (s f : Nat) : Option (Nat × Bool × Nat) :=
 match P.underlying s with
 | some (.struct fields) => match fields[f]? with
   | some x => match nu P x.type with
     | some (b, n) => some (x.offset, b, n)
     | none => none
   | none => none
 | _ => none
def xF (P : Program) (s : TypeId) (x : AV) (f : Nat) : aw :=
 match y5 P s f, x with
 | some (o, true, n), .agg l => .cond (o + n <= l.length) (.val (.agg ((l.drop o).take n)))
 | some (o, false, _), .agg l => gP (l.drop o)
 | _, _ => .bad
def lz (P : Program) (f : AV) (args : List AV) : aw :=
 match f with
 | .func (.func g) first cap => if hU P g = true then .enter g (first ++ args ++ cap) else .bad
 | .rO o => .yield o args
 | _ => .bad
def Gy (P : Program) (t : TypeId) (m : AV) : aw :=
 match p9 P t, m with
 | some _, .fS ks vs => .new .it none (.iter (ks.zip vs) none)
 | _, _ => .bad
def sj : List (AV × AV) -> List ((AV × AV) × List (AV × AV))
 | [] => []
 | x :: xs => (x, xs) :: (sj xs).map fun p => (p.1, x :: p.2)
def si (i : AV) (U : St) : aw :=
 match i with
 | .it o => match U.iter o with
   | some ([], _) => .val (.aU [.bool false])
   | some (x :: xs, _) => .kP o ((sj (x :: xs)).map fun p => (.aU [.bool true, p.1.1, p.1.2], .iter p.2 (some p.1)))
   | none => .bad
 | _ => .bad
def oO (i : AV) (U : St) : aw :=
 match i with
 | .it o => match U.iter o with
   | some (_, some kv) => .val (.aU [kv.1, kv.2])
   | _ => .bad
 | _ => .bad
def yY (P : Program) (t : TypeId) : Option AV :=
 match P.underlying t with
 | some (.interface _) => none
 | some _ => zeroV P t
 | none => none
def uI (P : Program) (x : AV) (t : TypeId) (ok : Bool) : aw :=
 match yY P t, x with
 | some z, .iface u v => if u = t then .val (if ok then .aU [v, .bool true] else v) else if ok then .val (.aU [z, .bool false]) else .bad
 | some z, .dq => if ok then .val (.aU [z, .bool false]) else .bad
 | _, _ => .bad
def sg (P : Program) (t : TypeId) (mu : Bool) (l c : AV) : aw :=
 match eO P t, l, c with
 | some (e, sz), .int _ l, .int _ c => match pa P e with
   | some z => .cond (0 <= l /\ l = c /\ c <= 65536) (if mu then .om l.toNat sz e none (bB l.toNat z) else .mP l.toNat (bB l.toNat z) none ⟨l.toNat, e, sz⟩)
   | none => .bad
 | _, _, _ => .bad
def xC (P : Program) (t : TypeId) (x : AV) (U : St) : aw :=
 match eO P t, x with
 | some (e, sz), .ms b off n iC _ => match U.box b, pa P e with
   | some l, some z => .cond (iC = sz /\ off + n * sz <= l.length) (.kW (.aU []) b (.box (az l off (bB n z))))
   | _, _ => .bad
 | _, _ => .bad
def Bf (P : Program) (t u : TypeId) : Option (TypeId × Nat × List AV) :=
 match P.underlying u with
 | some (.int _) => match eO P t with
   | some (e, sz) => match pa P e with
     | some z => some (e, sz, z)
     | none => none
   | none => none
 | _ => none
def Ev (q : TypeId × Nat × List AV) (mu : Bool) (s y : AV) : aw :=
 match s, y with
 | .ak, .int _ n => .cond (0 < n /\ n <= 65536) (if mu then .om n.toNat q.2.1 q.1 none (bB n.toNat q.2.2) else .mP n.toNat (bB n.toNat q.2.2) none ⟨n.toNat, q.1, q.2.1⟩)
 | _, _ => .bad
def Fa (st : Option (TypeId × Nat)) (x : AV) : aw := match st, x with
 | some _, .ak => .val (.int .i64 0)
 | _, _ => .bad
def yX (P : Program) (t u : TypeId) (mu : Bool) (s y : AV) (U : St) : aw :=
 match Bf P t u with
 | some q => Ev q mu s y
 | none => Cu P t u mu s y U
def y1 (C : cV) (mu : Bool) (c : Call) (ρ : Env) (U : St) : aw :=
 match c.callee, c.argTypes.toList, c.args.toList with
 | .value f, _, args => lz C.P (ρ.ev C f) (args.map (ρ.ev C))
 | .builtin .len, [t], [x] => F7 C.P t (ρ.ev C x) U
 | .builtin .append, [t, u], [s, y] => yX C.P t u mu (ρ.ev C s) (ρ.ev C y) U
 | .builtin .cap, [t], [x] => Fa (eO C.P t) (ρ.ev C x)
 | .builtin .min, _, [x, y] => ux (ρ.ev C x) (ρ.ev C y)
 | .builtin .max, _, [x, y] => wi (ρ.ev C x) (ρ.ev C y)
 | .builtin .clear, [t], [x] => xC C.P t (ρ.ev C x) U
 | _, _, _ => .bad
def jh (C : cV) (mu : Bool) (o : Op) (ρ : Env) (U : St) : aw :=
 match o with
 | .move x | .assign x => .val (ρ.ev C x)
 | .pick c a b => aY (ρ.ev C c) (ρ.ev C a) (ρ.ev C b)
 | .alloc t => EV C.P t
 | .box _ x => jb (ρ.ev C x)
 | .build t parts => E6 C.P t (lQ C ρ parts)
 | .buildSlice t n parts => ra C.P t n mu (lQ C ρ parts)
 | .insert t m k v | .mapUpdate t m k v => qd C.P t (ρ.ev C m) (ρ.ev C k) (ρ.ev C v) U
 | .load t a => tO C.P t (ρ.ev C a) U
 | .store t a v => GO C.P t (ρ.ev C a) (ρ.ev C v) U
 | .nilCheck x => aI (ρ.ev C x)
 | .binOp op t x y _ => EZ C.P op t (isLit x || isLit y) (ρ.ev C x) (ρ.ev C y)
 | .unOp op _ x => fZ op (ρ.ev C x)
 | .convert s d x => Et C.P s d (ρ.ev C x)
 | .makeInterface t x => wg C.P t (ρ.ev C x)
 | .makeFunc fn first cap => .val (.func fn (first.toList.map (ρ.ev C)) (cap.toList.map (ρ.ev C)))
 | .makeMap _ none => .EC
 | .slice t x lo hi none => GI C.P t (ρ.ev C x) (lo.map (ρ.ev C)) (hi.map (ρ.ev C))
 | .fieldAddr s x f => vO C.P s (ρ.ev C x) f
 | .field s x f => xF C.P s (ρ.ev C x) f
 | .indexAddr t x i => vW C.P t (ρ.ev C x) (ρ.ev C i)
 | .index t x i => BE C.P t (ρ.ev C x) (ρ.ev C i)
 | .lookup t m k ok => ve C.P t (ρ.ev C m) (ρ.ev C k) ok U
 | .extract t i => aX (ρ.ev C t) i
 | .panic x => th (ρ.ev C x)
 | .range t m => Gy C.P t (ρ.ev C m)
 | .typeAssert x _ t ok => uI C.P (ρ.ev C x) t ok
 | .makeSlice t l c => sg C.P t mu (ρ.ev C l) (ρ.ev C c)
 | .next i false => si (ρ.ev C i) U
 | .entry i => oO (ρ.ev C i) U
 | .call c => y1 C mu c ρ U
 | _ => .bad
section
variable {C : cV} {g : Gh} {U : St} {w : World}
theorem CE (h : br g U w) {s f : Nat} {x : AV} {v : Value} (hx : aB g x v) : aw.Fits C g U (xF C.P s x f) ((do let r <- Instr.field s v f; pure (Next.value r) : Sem Next).run C.P w) := by
 unfold xF
 have key : ∀ {o b n}, y5 C.P s f = some (o, b, n) -> ∃ fs y i d, C.P.underlying s = some (.struct fs) /\ fs[f]? = some y /\ y.offset = o /\ C.P.info? y.type = some i /\ C.P.underlying y.type = some d /\ Cq d = b /\ i.size = n := fun {o b n} hf => by
  unfold y5 at hf
  split at hf
  · rename_i fs hu
    split at hf
    · rename_i y hy
      split at hf
      · rename_i b' n' hv
        simp only [iE, lq] at hf
        obtain ⟨rfl, rfl, rfl⟩ := hf
        obtain ⟨i, d, h1, h2, h3, h4⟩ := n0 hv
        exact ⟨fs, y, i, d, hu, hy, rfl, h1, h2, h3, h4⟩
      · cases hf
    · cases hf
  · cases hf
 split
 · rename_i o n l hf
   obtain ⟨fs, y, i, d, hu, hy, rfl, hi, hd, ha, rfl⟩ := key hf
   intro hle
   simp only [aB] at hx
   obtain ⟨vs, rfl, h1, hr⟩ := hx
   simp only [Instr.field, cA, run_underlying hu, cK, hy, asAgg, cQ, part, kU hd, ha, if_true, fm, ez hi]
   refine bo h ?_
   simp only [aB]
   refine ⟨(vs.drop y.offset).take i.size, ?_, fun u hu => h1 u (List.mem_of_mem_drop (List.mem_of_mem_take hu)), (hr.drop _).take _⟩
   congr 1
   apply Array.ext'
   simp [List.extract_eq_take_drop]
 · rename_i o n l hf
   obtain ⟨fs, y, i, d, hu, hy, rfl, hi, hd, ha, rfl⟩ := key hf
   simp only [aB] at hx
   obtain ⟨vs, rfl, h1, hr⟩ := hx
   cases hl : l.drop y.offset with
   | nil => trivial
   | cons z zs =>
     have hz : l[y.offset]? = some z := by
      have := congrArg (fun l => l[0]?) hl
      simpa using this
     obtain ⟨u, oB, YG⟩ := hr.get hz
     have e : vs.toArray[y.offset]? = some u := by simpa using oB
     simp only [Instr.field, cA, run_underlying hu, cK, hy, asAgg, cQ, part, kU hd, ha, bH, if_false, fm, e]
     exact bo h YG
 · trivial
theorem y4 (hG : gZ C g) {ρ : Env} {a : Act} (hr : gr g ρ a.tmps) : ∀ l : List Operand, aN g (l.map (ρ.ev C)) (l.map a.eval)
 | [] => by simp [aN]
 | x :: l => by simp only [et, aN]; exact ⟨_, _, rfl, sN hG hr x, y4 hG hr l⟩
theorem QK (h : br g U w) {f : AV} {vf : Value} {args : List AV} {vs : List Value} (hf : aB g f vf) (ha : aN g args vs) :
 aw.Fits C g U (lz C.P f args) ((do let d <- Deferred.ofValue vf vs.toArray; invoke d.target d.args : Sem Next).run C.P w) := by
 unfold lz
 split
 · rename_i q first cap
   split
   · rename_i he
     simp only [aB] at hf
     obtain ⟨fs, cs, rfl, h1, h2⟩ := hf
     unfold hU at he
     split at he
     · rename_i fn hfn
       simp only [cF, Bool.not_eq_true'] at he
       have hb : fn.body.isNone = false := by cases hb : fn.body <;> simp_all
       simp only [Deferred.ofValue, invoke, callFunc, cA, cQ, cK, run_program, hfn, he.2, hb, bH, if_false, fm]
       exact ⟨fs ++ vs ++ cs, w, by simp, h, (h1.append ha).append h2⟩
     · cases he
   · trivial
 · rename_i o
   simp only [aB] at hf
   obtain ⟨x, hx, rfl⟩ := hf
   simp only [Deferred.ofValue, invoke, cA, cQ, cK]
   exact ⟨vs, x, w, w, hx, by simp, rfl, h, ha⟩
 · trivial
theorem AL (h : br g U w) {x : AV} {v : Value} {xt t : TypeId} {ok : Bool} (hx : aB g x v) :
 aw.Fits C g U (uI C.P x t ok) ((do let r <- Instr.typeAssert v xt t ok; pure (Next.value r) : Sem Next).run C.P w) := by
 have key : ∀ {z : AV}, yY C.P t = some z -> ∃ d i vz, C.P.underlying t = some d /\ (∀ ms, d ≠ .interface ms) /\ C.P.info? t = some i /\ i.zero = some vz /\ aB g z vz := fun {z} hz => by
  unfold yY at hz
  split at hz
  · cases hz
  · rename_i d hn hd
    unfold zeroV at hz
    cases hi : C.P.info? t with
    | none => simp [hi] at hz
    | some i =>
      cases nL : i.zero with
      | none => simp [hi, nL] at hz
      | some vz => simp [hi, nL] at hz; exact ⟨d, i, vz, hd, fun ms e => hn ms e, rfl, nL, by rw [<- hz]; exact CB vz⟩
  · cases hz
 unfold uI
 split
 · rename_i z u y hz
   obtain ⟨d, i, vz, hd, hn, hi, nL, Mb⟩ := key hz
   simp only [aB] at hx
   obtain ⟨q, rfl, hq⟩ := hx
   have gJ : (Instr.typeAssert (.iface u q) xt t ok).run C.P w = (if u = t then .ok (if ok then .tuple #[q, .bool true] else q) w else if ok then .ok (.tuple #[vz, .bool false]) w else (Instr.typeAssert (.iface u q) xt t ok).run C.P w) := by
    by_cases hu : u = t
    · rw [if_pos hu]
      cases d <;> first
       | exact absurd rfl (hn _)
       | (cases ok <;> simp [Instr.typeAssert, run_underlying hd, hu])
    · rw [if_neg hu]
      cases ok
      · rfl
      · cases d <;> first
         | exact absurd rfl (hn _)
         | simp [Instr.typeAssert, run_underlying hd, hu, gh hi nL]
   split
   · rename_i hu
     rw [cA, gJ, if_pos hu]
     refine bo h ?_
     cases ok
     · exact hq
     · simp only [if_true, aB, aN]; exact ⟨_, rfl, _, _, rfl, hq, _, _, rfl, rfl, rfl⟩
   · rename_i hu
     split
     · rename_i cW
       rw [cA, gJ, if_neg hu, if_pos cW]
       exact bo h (by simp only [aB, aN]; exact ⟨_, rfl, _, _, rfl, Mb, _, _, rfl, rfl, rfl⟩)
     · trivial
 · rename_i z hz
   obtain ⟨d, i, vz, hd, hn, hi, nL, Mb⟩ := key hz
   simp only [aB] at hx
   subst hx
   split
   · rename_i cW
     subst cW
     have gJ : (Instr.typeAssert .nilIface xt t true).run C.P w = .ok (.tuple #[vz, .bool false]) w := by
      cases d <;> first
       | exact absurd rfl (hn _)
       | simp [Instr.typeAssert, run_underlying hd, gh hi nL]
     rw [cA, gJ]
     exact bo h (by simp only [aB, aN]; exact ⟨_, rfl, _, _, rfl, Mb, _, _, rfl, rfl, rfl⟩)
   · trivial
 · trivial
theorem BO (h : br g U w) {t : TypeId} {mu : Bool} {l c : AV} {vl vc : Value} (hl : aB g l vl) (hc : aB g c vc) :
 aw.Fits C g U (sg C.P t mu l c) ((do let x <- Instr.makeSlice t vl vc; pure (Next.value x) : Sem Next).run C.P w) := by
 unfold sg
 split
 · rename_i e sz kl l kc c hs
   split
   · rename_i z hz
     rintro ⟨h0, rfl, h1⟩
     obtain ⟨i, zv, hu, hi, nL, xg, fi, uu, hb, _⟩ := ik hs
     obtain ⟨i', ZM, iM, DJ, hm⟩ := mJ hz
     rw [hi] at iM; cases iM
     rw [nL] at DJ; cases DJ
     obtain ⟨h2, h3⟩ := ey (g := g) hm
     simp only [aB] at hl hc
     subst hl hc
     have XV : (i.bytes : Int) * l <= 281474976710656 := by
      have e1 : (i.bytes : Int) * l <= 32768 * l := Int.mul_le_mul_of_nonneg_right (by omega) h0
      omega
     have gJ := run_make (P := C.P) w t e i zv hu hi nL kl kc l l h0 (Int.le_refl _) XV (by omega)
     have xU := sw (g := g) h2 l.toNat
     have Yh : madeCells zv.cells (l.toNat * i.size) = (Array.range (l.toNat * zv.cells.size)).map (zv.cells[· % zv.cells.size]!) := by rw [fi, <- xg]; rfl
     have ur : ∀ u ∈ (madeCells zv.cells (l.toNat * i.size)).toList, u.oneCell' = true := fun u hu => by
      rw [Yh] at hu
      simp only [Array.toList_map, List.mem_map] at hu
      obtain ⟨j, _, rfl⟩ := hu
      have aL : j % zv.cells.size < zv.cells.size := Nat.mod_lt _ (by omega)
      rw [getElem!_pos zv.cells _ aL]
      exact h3 _ (by simp)
     rw [<- Yh] at xU
     have hlen : (madeCells zv.cells (l.toNat * i.size)).toList.length = l.toNat * sz := by rw [Yh]; simp [xg]
     have FT : z.length = sz := by have := h2.length; simp at this; omega
     simp only [cA, gJ, cK, cQ]
     cases mu
     · have := oQ (C := C) (del := none) (e := e) (sz := sz) (n := l.toNat) (c := l.toNat) h (vs := (madeCells zv.cells (l.toNat * i.size)).toList) (rest := []) xU ur (by simp) (by rw [kL, FT]) (by simpa using hlen) (cG _) (by unfold maxLen; omega)
       simpa using this
     · have := pV (C := C) (del := none) (e := e) (sz := sz) (n := l.toNat) (c := l.toNat) h (vs := (madeCells zv.cells (l.toNat * i.size)).toList) (rest := []) xU ur (by simp) (by simpa using hlen) (cG _) (by unfold maxLen; omega)
       simpa using this
   · trivial
 · trivial
theorem Hh (h : br g U w) {t ty : TypeId} {x : AV} {v : Value} (hx : aB g x v) :
 aw.Fits C g U (xC C.P t x U) ((do let r <- Builtin.clear_ #[t] ty #[v]; pure (Next.value r) : Sem Next).run C.P w) := by
 unfold xC
 split
 · rename_i e sz b off n iC e' hs
   split
   · rename_i l z hb hz
     rintro ⟨rfl, h1⟩
     obtain ⟨i, zv, hu, hi, nL, xg, fi, uu, _⟩ := ik hs
     obtain ⟨i', ZM, iM, DJ, hm⟩ := mJ hz
     rw [hi] at iM; cases iM
     rw [nL] at DJ; cases DJ
     obtain ⟨h2, h3⟩ := ey (g := g) hm
     simp only [aB] at hx
     obtain ⟨y, c, hy, rfl, _⟩ := hx
     have FT : z.length = iC := by have := h2.length; simp at this; omega
     have xU := sw (g := g) h2 n
     have YF : Builtin.zeroCells zv.cells n = (Array.range (n * zv.cells.size)).map (zv.cells[· % zv.cells.size]!) := rfl
     obtain ⟨w', fN, dT⟩ := vw (C := C) (off := off) h hb hy xU (lK h3 n (by omega)) (by rw [kL, FT]; exact h1)
     rw [<- YF] at fN
     by_cases hn : n = 0
     · subst hn
       have e0 : U.cw b (az l off (bB 0 z)) = U.cw b l := by simp [az, bB]
       simp only [Builtin.clear_, cA, cQ, cK]
       simp [run_underlying hu]
       refine ⟨_, w, g, .inl rfl, Gh.Le.refl g, ?_, by simp only [aB]; exact ⟨[], rfl, by simp [aN]⟩⟩
       show br g (U.cw b (az l off (bB 0 z))) w
       rw [e0]; exact h.aa8 hb
     · have hz2 := gh (P := C.P) hi nL w
       have XY : (Builtin.clear_ #[t] ty #[.slice (some ⟨y.aO, off, none⟩) n c]).run C.P w = .ok (.tuple #[]) w' := by
        simp [Builtin.clear_, run_underlying hu, hz2, fN, hn]
       simp only [cA, XY, cK, cQ]
       exact ⟨_, w', g, .inl rfl, Gh.Le.refl g, dT, by simp only [aB]; exact ⟨[], rfl, by simp [aN]⟩⟩
   · trivial
 · trivial
theorem zZ : ∀ {ks vs : List AV}, ks.length = vs.length -> (ks.zip vs).map (·.1) = ks
 | [], [], _ => rfl
 | [], _ :: _, h => by simp at h
 | _ :: _, [], h => by simp at h
 | k :: ks, v :: vs, h => by simp only [List.zip_cons_cons, et]; rw [zZ (by simpa using h)]
theorem z8 : ∀ {ks vs : List AV}, ks.length = vs.length -> (ks.zip vs).map (·.2) = vs
 | [], [], _ => rfl
 | [], _ :: _, h => by simp at h
 | _ :: _, [], h => by simp at h
 | k :: ks, v :: vs, h => by simp only [List.zip_cons_cons, et]; rw [z8 (by simpa using h)]
theorem HE (h : br g U w) {t : TypeId} {m : AV} {v : Value} (hm : aB g m v) : aw.Fits C g U (Gy C.P t m) ((do let x <- Instr.range t v; pure (Next.value x) : Sem Next).run C.P w) := by
 unfold Gy
 split
 · rename_i p ks vs ht
   obtain ⟨fk, e⟩ := p
   obtain ⟨kt, hu, _⟩ := x8 ht
   simp only [aB] at hm
   obtain ⟨r, es, clock, l, rfl, hr, hp, hs, h1, h2⟩ := hm
   obtain ⟨q1, q2⟩ := h.bZ r es clock hr
   have hlen : ks.length = vs.length := by
    have a := h1.length
    have b := h2.length
    simp at a b; omega
   have rR : (getObj r).run C.P w = .ok (.map es clock) w := by simp [getObj, Sem.run, q1]
   obtain ⟨b, g', f1, f2, f3, f4⟩ := h.tc (.mapIter (some r) clock #[] clock) 0 0 (.iter (ks.zip vs) none) fun g' hle hi LO =>
    ⟨r, es, clock, #[], heap_alloc_new w _, hle.bZ _ _ hr, ⟨l, by
      have : (es.toList.filter fun e => !(#[] : Array Nat).contains e.born) = es.toList := by simp
      rw [this]; exact hp, by rw [zZ hlen]; exact h1.mono hle, by rw [z8 hlen]; exact h2.mono hle⟩, trivial⟩
   simp only [Instr.range, cA, run_underlying hu, cK, rR, cQ, run_newObj]
   exact ⟨_, _, g', b, rfl, f1, f2, f4, by simp only [NV.at, aB]; exact ⟨_, f3, rfl⟩⟩
 · trivial
theorem D2 : ∀ {l : List (AV × AV)} {i : Nat} {x : AV × AV}, l[i]? = some x -> (x, l.eraseIdx i) ∈ sj l
 | [], i, x, h => by simp at h
 | y :: l, 0, x, h => by simp at h; subst h; simp [sj]
 | y :: l, i + 1, x, h => by
   simp only [List.getElem?_cons_succ] at h
   simp only [sj, List.eraseIdx_cons_succ, fC, List.mem_map]
   exact .inr ⟨_, D2 h, rfl⟩
theorem aN.eraseIdx : ∀ {l : List AV} {vs : List Value} (i : Nat), aN g l vs -> aN g (l.eraseIdx i) (vs.eraseIdx i)
 | [], _, _, h => by simp only [aN] at h; subst h; simp [aN]
 | y :: ys, _, 0, h => by
   simp only [aN] at h
   obtain ⟨v, vs, rfl, h1, h2⟩ := h
   simpa using h2
 | y :: ys, _, i + 1, h => by
   simp only [aN] at h
   obtain ⟨v, vs, rfl, h1, h2⟩ := h
   simp only [List.eraseIdx_cons_succ, aN]
   exact ⟨v, _, rfl, h1, aN.eraseIdx i h2⟩
theorem mO {α β : Type} (f : α -> β) : ∀ (l : List α) (i : Nat), (l.eraseIdx i).map f = (l.map f).eraseIdx i
 | [], i => by simp
 | x :: l, 0 => by simp
 | x :: l, i + 1 => by simp [mO f l i]
theorem En {α : Type} {l m : List α} (h : l.Perm m) {i j : Nat} {e : α} (hi : l[i]? = some e) (hj : m[j]? = some e) : (l.eraseIdx i).Perm (m.eraseIdx j) := by
 obtain ⟨h1, h2⟩ := dP.1 hi
 obtain ⟨h3, h4⟩ := dP.1 hj
 have el : l = l.take i ++ e :: l.drop (i + 1) := by
  conv => lhs; rw [<- List.take_append_drop i l, gX h1, h2]
 have em : m = m.take j ++ e :: m.drop (j + 1) := by
  conv => lhs; rw [<- List.take_append_drop j m, gX h3, h4]
 have hp : (l.take i ++ e :: l.drop (i + 1)).Perm (m.take j ++ e :: m.drop (j + 1)) := by rw [<- el, <- em]; exact h
 have h5 := (List.perm_middle.symm.trans hp).trans List.perm_middle
 rw [List.eraseIdx_eq_take_drop_succ, List.eraseIdx_eq_take_drop_succ]
 exact List.Perm.cons_inv h5
theorem Hn {es : List MapEntry} (hn : (es.map (·.born)).Nodup) {seen : Array Nat} {e : MapEntry} {j : Nat} (hj : (es.filter fun x => !seen.contains x.born)[j]? = some e) :
 (es.filter fun x => !(seen.push e.born).contains x.born) = (es.filter fun x => !seen.contains x.born).eraseIdx j := by
 have e1 : (es.filter fun x => !(seen.push e.born).contains x.born) = (es.filter fun x => !seen.contains x.born).filter fun x => x.born != e.born := by
  rw [List.filter_filter]
  apply List.filter_congr
  intro x _
  simp only [Array.contains_push, Bool.not_or]
  rw [Bool.and_comm]
  congr 1
 rw [e1]
 have wZ : ((es.filter fun x => !seen.contains x.born).map (·.born)).Nodup := List.Nodup.sublist (List.Sublist.map _ List.filter_sublist) hn
 generalize (es.filter fun x => !seen.contains x.born) = l at hj wZ
 clear e1 hn es
 induction l generalizing j with
 | nil => simp at hj
 | cons y l ih =>
   simp only [et, List.nodup_cons] at wZ
   cases j with
   | zero =>
     simp at hj; subst hj
     simp only [List.filter_cons, bne_self_eq_false, bH, if_false, List.eraseIdx_zero, List.tail_cons]
     rw [List.filter_eq_self]
     intro x hx
     simp only [bne_iff_ne, ne_eq]
     intro he
     exact wZ.1 (he ▸ List.mem_map_of_mem hx)
   | succ j =>
     simp only [List.getElem?_cons_succ] at hj
     have cH : y.born ≠ e.born := fun he => wZ.1 (he ▸ List.mem_map_of_mem (gK hj))
     simp only [List.filter_cons, bne_iff_ne, ne_eq, cH, not_false_eq_true, if_true, List.eraseIdx_cons_succ]
     rw [ih hj wZ.2]
theorem Kq (h : br g U w) {i : AV} {v : Value} {ty : TypeId} (hi : aB g i v) : aw.Fits C g U (si i U) ((do let x <- Instr.next v false ty; pure (Next.value x) : Sem Next).run C.P w) := by
 unfold si
 split
 · rename_i o
   simp only [aB] at hi
   obtain ⟨p, hp, rfl⟩ := hi
   split
   · rename_i cur hit
     obtain ⟨p', k1, k2, m, es, clock, seen, k3, k4, ⟨l, k5, k6, k7⟩, k8⟩ := h.live o _ (St.wc.1 hit)
     rw [hp] at k1; cases k1
     obtain ⟨q1, q2⟩ := h.bZ m es clock k4
     simp only [jk, aN, List.map_eq_nil_iff] at k6
     subst k6
     have CK := k5.symm.eq_nil
     have qz : (getObj p.aO).run C.P w = .ok (.mapIter (some m) clock seen clock) w := by simp [getObj, Sem.run, k3]
     have Dv : (getObj m).run C.P w = .ok (.map es clock) w := by simp [getObj, Sem.run, q1]
     have JO : (!seen.isEmpty && !es.isEmpty && es.all (fun e => decide (e.born >= clock))) = false := by
      cases he : es.isEmpty
      · have : es.all (fun e => decide (e.born >= clock)) = false := by
         rw [Array.all_eq_false]
         have h0 : 0 < es.size := by
          rcases Nat.eq_zero_or_pos es.size with h0 | h0
          · simp [Array.isEmpty, h0] at he
          · exact h0
         refine ⟨0, h0, ?_⟩
         have := q2.2 es[0] (by simp)
         simp; omega
        simp [this]
      · simp
     have aaP : (es.filter fun e => !seen.contains e.born) = #[] := by
      apply Array.ext'
      simpa using CK
     simp only [Instr.next, cA, qz, cK, Dv, JO, fm, bH, if_false, cQ, aaP]
     have e2 : (#[] : Array MapEntry).filter (fun e => decide (e.born < clock)) = #[] := by simp
     have e3 : (#[] : Array MapEntry).filter (fun e => decide (e.born >= clock)) = #[] := by simp
     simp [choose, Sem.run, Question.forced, Result.andThen]
     exact bo h (by simp only [aB, aN]; exact ⟨[.bool false], rfl, _, _, rfl, rfl, rfl⟩)
   · rename_i x xs cur hit
     obtain ⟨p', k1, k2, m, es, clock, seen, k3, k4, ⟨l, k5, k6, k7⟩, k8⟩ := h.live o _ (St.wc.1 hit)
     rw [hp] at k1; cases k1
     obtain ⟨q1, q2⟩ := h.bZ m es clock k4
     have qz : (getObj p.aO).run C.P w = .ok (.mapIter (some m) clock seen clock) w := by simp [getObj, Sem.run, k3]
     have JO : (!seen.isEmpty && !es.isEmpty && es.all (fun e => decide (e.born >= clock))) = false := by
      cases he : es.isEmpty
      · have : es.all (fun e => decide (e.born >= clock)) = false := by
         rw [Array.all_eq_false]
         have h0 : 0 < es.size := by
          rcases Nat.eq_zero_or_pos es.size with h0 | h0
          · simp [Array.isEmpty, h0] at he
          · exact h0
         refine ⟨0, h0, ?_⟩
         have := q2.2 es[0] (by simp)
         simp; omega
        simp [this]
      · simp
     generalize hL : (es.filter fun e => !seen.contains e.born) = L
     have H9 : (es.toList.filter fun e => !seen.contains e.born) = L.toList := by rw [<- hL]; simp
     rw [H9] at k5
     have mv : ∀ e ∈ L.toList, e ∈ es.toList := fun e he => by rw [<- H9] at he; exact (List.mem_filter.1 he).1
     have hlen : l.length = xs.length + 1 := by have := k6.length; simpa using this
     have Ly : L.size = xs.length + 1 := by rw [<- hlen, k5.length_eq]; simp
     have hold : L.filter (fun e => decide (e.born < clock)) = L := by
      apply Array.ext'
      rw [Array.toList_filter, List.filter_eq_self]
      intro e he
      have := q2.2 e (mv e he)
      simpa using this
     have pd : L.filter (fun e => decide (e.born >= clock)) = #[] := by
      apply Array.ext'
      rw [Array.toList_filter]
      apply List.filter_eq_nil_iff.2
      intro e he
      have := q2.2 e (mv e he)
      simp; omega
     have hem : L.isEmpty = false := by simp [Array.isEmpty, Ly]
     have key : ∀ (w1 : World) (c : Nat), w1.heap = w.heap -> w1.os = w.os -> w1.tape = w.tape -> w1.output = w.output -> c < L.size ->
      ∀ e, L[c]? = some e -> ∃ u w' g' v x', (setObj p.aO (.mapIter (some m) clock (seen.push e.born) clock)).run C.P w1 = .ok () w' /\ u = Value.tuple #[.bool true, e.key, e.val] /\
       (v, x') ∈ (sj (x :: xs)).map (fun p => (AV.aU [.bool true, p.1.1, p.1.2], Live.iter p.2 (some p.1))) /\ Gh.Le g g' /\ br g' (U.set o x') w' /\ aB g' v u := fun w1 c e1 e2 e3 e4 hc e he => by
      have kI : L.toList[c]? = some e := by rw [kB]; exact he
      obtain ⟨a, ha⟩ := List.getElem?_of_mem (k5.mem_iff.2 (gK kI))
      have Fu : a < (x :: xs).length := by
       have := (dP.1 ha).1
       rw [hlen] at this; simpa using this
      have Tv : (x :: xs)[a]? = some ((x :: xs)[a]) := jQ Fu
      generalize (x :: xs)[a] = kv at Tv
      obtain ⟨vk, YA, oA⟩ := k6.get (i := a) (x := kv.1) (by rw [ma, Tv]; rfl)
      obtain ⟨vv, YB, fY⟩ := k7.get (i := a) (x := kv.2) (by rw [ma, Tv]; rfl)
      rw [ma, ha] at YA YB
      simp at YA YB
      subst YA YB
      have vT : (setObj p.aO (.mapIter (some m) clock (seen.push e.born) clock)).run C.P w1 = .ok () { w1 with heap := w1.heap.setIfInBounds p.aO (.mapIter (some m) clock (seen.push e.born) clock) } := by
       simp [setObj, Sem.run, e1, k3]
      have aL := (kz.1 k3).1
      refine ⟨_, _, g, _, _, vT, rfl, List.mem_map.2 ⟨_, D2 Tv, rfl⟩, Gh.Le.refl g, ?_, ?_⟩
      · refine h.rewrite (St.wc.1 hit) hp ⟨e2, e3, e4, by simp [e1]⟩ (fun k hk _ => by simp only [e1]; exact Array.getElem?_setIfInBounds_ne (Ne.symm hk)) (fun o => ?_) ?_ ?_
        · cases ei : g.cB p.aO o with
          | none => rfl
          | some u => have := (h.cB _ _ _ ei).1; simp [World.cell?, k3] at this
        · cases ei : g.bZ p.aO with
          | none => rfl
          | some u => have := (h.bZ _ _ _ ei).1; rw [k3] at this; cases this
        · refine ⟨m, es, clock, seen.push e.born, by simp [e1, aL], k4, ⟨l.eraseIdx a, ?_, ?_, ?_⟩, e, ?_, by simp, oA, fY⟩
          · have zD : (es.toList.filter fun e => !seen.contains e.born)[c]? = some e := by rw [H9]; exact kI
            rw [Hn q2.1 zD, H9]
            exact En k5 ha kI
          · rw [mO, mO]; exact k6.eraseIdx a
          · rw [mO, mO]; exact k7.eraseIdx a
          · exact mv e (gK kI)
      · simp only [aB, aN]
        exact ⟨_, rfl, _, _, rfl, rfl, _, _, rfl, oA, _, _, rfl, fY, rfl⟩
     have FF : ∀ (n : Nat) (w1 : World), (choose (.mapNext L.size)).run C.P w = .ok n w1 -> w1.heap = w.heap -> w1.os = w.os -> w1.tape = w.tape -> w1.output = w.output -> n < L.size ->
      aw.Fits C g U (.kP o ((sj (x :: xs)).map fun p => (.aU [.bool true, p.1.1, p.1.2], .iter p.2 (some p.1)))) ((do let x <- Instr.next (.pointer (some ⟨p.aO, 0, none⟩)) false ty; pure (Next.value x) : Sem Next).run C.P w) := fun n w1 hch e1 e2 e3 e4 hn => by
      have Dv : (getObj m).run C.P w = .ok (.map es clock) w := by simp [getObj, Sem.run, q1]
      have XN : L[n]? = some L[n] := by simp [hn]
      generalize L[n] = e at XN
      obtain ⟨u, w', g', v, x', r1, r2, r3, r4, r5, r6⟩ := key w1 n e1 e2 e3 e4 hn e XN
      have aaJ : ((#[] : Array (Option MapEntry)) ++ (L ++ #[]).map some).size = L.size := by simp
      have hcn : ((#[] : Array (Option MapEntry)) ++ (L ++ #[]).map some)[n]? = some (some e) := by simp [XN]
      simp only [Instr.next, cA, qz, cK, Dv, JO, fm, bH, if_false, cQ, hL, hold, pd, hem, aaJ, hch, hcn, r1]
      exact ⟨_, w', g', v, x', rfl, r3, r4, r5, by rw [<- r2]; exact r6⟩
     by_cases hf : L.size <= 1
     · refine FF 0 w ?_ rfl rfl rfl rfl (by omega)
       simp [choose, Sem.run, Question.forced, hf]
     · refine FF (w.tape w.drawn (.mapNext L.size) % L.size) w.drew ?_ rfl rfl rfl rfl (Nat.mod_lt _ (by omega))
       have X7 : Question.forced (.mapNext L.size) = false := by simp only [Question.forced, decide_eq_false_iff_not]; exact hf
       simp only [choose, Sem.run, X7, bH, if_false, Question.cut]
       rfl
   · trivial
 · trivial
theorem Hj (h : br g U w) {i : AV} {v : Value} (hi : aB g i v) : aw.Fits C g U (oO i U) ((do let x <- Instr.entry v; pure (Next.value x) : Sem Next).run C.P w) := by
 unfold oO
 split
 · rename_i o
   simp only [aB] at hi
   obtain ⟨p, hp, rfl⟩ := hi
   split
   · rename_i rest kv hit
     obtain ⟨p', k1, k2, m, es, clock, seen, k3, k4, _, e, k5, k6, k7, k8⟩ := h.live o _ (St.wc.1 hit)
     rw [hp] at k1; cases k1
     obtain ⟨q1, q2⟩ := h.bZ m es clock k4
     have qz : (getObj p.aO).run C.P w = .ok (.mapIter (some m) clock seen clock) w := by simp [getObj, Sem.run, k3]
     have Dv : (getObj m).run C.P w = .ok (.map es clock) w := by simp [getObj, Sem.run, q1]
     have JR : es.find? (fun x => x.born == e.born) = some e := by
      rw [<- Array.find?_toList]
      have hn := q2.1
      generalize es.toList = l at k5 hn
      induction l with
      | nil => simp at k5
      | cons y l ih =>
        simp only [et, List.nodup_cons] at hn
        rw [List.find?_cons]
        rcases fC.1 k5 with rfl | hm
        · simp
        · have : (y.born == e.born) = false := by
           simp only [beq_eq_false_iff_ne, ne_eq]
           intro he
           exact hn.1 (he ▸ List.mem_map_of_mem hm)
          rw [this]
          exact ih hm hn.2
     simp only [Instr.entry, cA, qz, cK, k6, Dv, bne_self_eq_false, bH, if_false, fm, cQ, JR]
     exact bo h (by simp only [aB, aN]; exact ⟨_, rfl, _, _, rfl, k7, _, _, rfl, k8, rfl⟩)
   · trivial
 · trivial
theorem zx (hG : gZ C g) {ρ : Env} {a : Act} (hr : gr g ρ a.tmps) (parts : Array (Nat × Operand)) :
 (parts.map fun (i, x) => (i, a.eval x)).size = (lQ C ρ parts).length /\ ∀ (i : Nat) (p : Nat × AV) (q : Nat × Value), (lQ C ρ parts)[i]? = some p -> (parts.map fun (i, x) => (i, a.eval x))[i]? = some q -> p.1 = q.1 /\ aB g p.2 q.2 := by
 refine ⟨by simp [lQ], fun i p q h1 h2 => ?_⟩
 simp only [lQ, ma, kB, oI] at h1
 obtain ⟨y, hy, rfl⟩ := h1
 simp only [Array.getElem?_map, hy, Option.map_some, iE] at h2
 subst h2
 exact ⟨rfl, sN hG hr _⟩
theorem IY (hG : gZ C g) {ρ : Env} {a : Act} (hr : gr g ρ a.tmps) (x : Option Operand) : match x.map (ρ.ev C), x.map a.eval with | none, none => True | some x, some u => aB g x u | _, _ => False := by
 cases x with
 | none => trivial
 | some x => exact sN hG hr x
theorem B0 {P : Program} {w : World} {t u ty e : TypeId} {i : TypeInfo} {z : Value} {k k' : IntKind} (ht : P.underlying t = some (.slice e)) (hu : P.underlying u = some (.int k')) (hi : P.info? e = some i) (hz : i.zero = some z) (Bj : i.bytes <= 32768) (hp : 0 < i.size)
 {n : Nat} (h0 : 0 < n) (hn : n <= 65536) :
 (Builtin.append_ #[t, u] ty #[.slice none 0 0, .int k (n : Int)]).run P w =
   .ok (.slice (some ⟨w.heap.size, 0, none⟩) n (grownCap w n 0 e))
    (w.drew.alloc (.cells (Builtin.zeroCells z.cells n ++ Builtin.zeroCells z.cells (grownCap w n 0 e - n)) e)) := by
 have aaZ : IntKind.i64.wrap (n : Int) = n := wT ⟨by omega, by omega⟩
 have QT : ¬ (9223372036854775807 < (n : Int)) := by omega
 have gA : n * i.bytes <= 140737488355328 := Nat.le_trans (Nat.mul_le_mul hn Bj) (by omega)
 have Ds := growslice_fits (old := 0) (need := n) (bytes := i.bytes) (by omega) gA
 have QS : ¬ (281474976710656 < Builtin.nextslicecap n 0 * i.bytes) := by omega
 have lB : ¬ ((281474976710656 : Int) < (n : Int) * (i.bytes : Int)) := by
  have : (n : Int) * (i.bytes : Int) = ((n * i.bytes : Nat) : Int) := by simp
  omega
 have zH : ¬ (n = 0 \/ i.size = 0) := by omega
 have abX : ¬ ((n : Int) < 0) := by omega
 simp [Builtin.append_, run_underlying ht, run_underlying hu, sizeOf, typeInfo, zeroValue, hi, hz, aaZ, QT, QS, lB, zH, abX, Question.forced, newRow, grownCap, asInt, asIntOf, Builtin.firstCells]
 have e1 : n ≠ 0 := by omega
 have e2 : n * i.size ≠ 0 := Nat.mul_ne_zero e1 (by omega)
 rw [if_neg e1, if_neg e2]
theorem JL {P : Program} {t u : TypeId} {q : TypeId × Nat × List AV} (h : Bf P t u = some q) : ∃ k, P.underlying u = some (.int k) /\ eO P t = some (q.1, q.2.1) /\ pa P q.1 = some q.2.2 := by
 unfold Bf at h
 split at h
 · rename_i k hu
   split at h
   · rename_i e sz hs
     split at h
     · rename_i z hz
       cases h
       exact ⟨k, hu, hs, hz⟩
     · cases h
   · cases h
 · cases h
theorem JK (h : br g U w) {t u ty : TypeId} {mu : Bool} {q : TypeId × Nat × List AV} (hq : Bf C.P t u = some q) {s y : AV} {v v2 : Value} (hs : aB g s v) (hy : aB g y v2) :
 aw.Fits C g U (Ev q mu s y) ((do let r <- Builtin.append_ #[t, u] ty #[v, v2]; pure (Next.value r) : Sem Next).run C.P w) := by
 obtain ⟨k', hu, BC, hz⟩ := JL hq
 unfold Ev
 split
 · rename_i k n
   rintro ⟨h0, h1⟩
   obtain ⟨i, zv, ht, hi, nL, xg, fi, uu, Bj, hz1⟩ := ik BC
   obtain ⟨i', ZM, iM, DJ, hm⟩ := mJ hz
   rw [hi] at iM; cases iM
   rw [nL] at DJ; cases DJ
   obtain ⟨h2, h3⟩ := ey (g := g) hm
   simp only [aB] at hs hy
   subst hs hy
   obtain ⟨m, rfl⟩ : ∃ m : Nat, n = m := ⟨n.toNat, by omega⟩
   simp only [dR]
   have gk := grownCap_ge w m 0 q.1
   have hle := grownCap_le_maxLen w m 0 q.1 (by unfold maxLen; omega)
   rw [cA, B0 (k := k) ht hu hi nL Bj (by omega) (by omega) (by omega)]
   have dT := h.grow (kj w)
   have xU := sw (g := g) h2 m
   have FT : q.2.2.length = i.size := by have := h2.length; simp at this; omega
   have ur := lK h3 m (by omega)
   have Ti := lK h3 (grownCap w m 0 q.1 - m) (by omega)
   have hlen : (Builtin.zeroCells zv.cells m).toList.length + (Builtin.zeroCells zv.cells (grownCap w m 0 q.1 - m)).toList.length = grownCap w m 0 q.1 * q.2.1 := by
    rw [rU, rU, size_zeroCells, size_zeroCells, xg, <- Nat.add_mul, <- fi]
    congr 1; omega
   have ew : Builtin.zeroCells zv.cells m ++ Builtin.zeroCells zv.cells (grownCap w m 0 q.1 - m) = ((Builtin.zeroCells zv.cells m).toList ++ (Builtin.zeroCells zv.cells (grownCap w m 0 q.1 - m)).toList).toArray := by simp
   rw [ew]
   simp only [cK, cQ]
   cases mu
   · exact oQ dT xU ur Ti (by rw [kL, FT, fi]) hlen gk hle
   · exact pV dT xU ur Ti hlen gk hle
 · trivial
theorem Lb (h : br g U w) {t ty : TypeId} {x : AV} {v : Value} (hx : aB g x v) :
 aw.Fits C g U (Fa (eO C.P t) x) ((do let r <- Builtin.cap_ #[t] ty #[v]; pure (Next.value r) : Sem Next).run C.P w) := by
 unfold Fa
 split
 · rename_i q hq
   obtain ⟨e, sz⟩ := q
   obtain ⟨i, z, ht, _⟩ := ik hq
   simp only [aB] at hx
   subst hx
   have : (Builtin.cap_ #[t] ty #[.slice none 0 0]).run C.P w = .ok (.int .i64 0) w := by simp [Builtin.cap_, run_underlying ht]; rfl
   rw [cA, this]
   exact bo h (by simp only [aB])
 · trivial
theorem EY (h : br g U w) {t u ty : TypeId} {mu : Bool} {s y : AV} {v v2 : Value} (hs : aB g s v) (hy : aB g y v2) :
 aw.Fits C g U (yX C.P t u mu s y U) ((do let r <- Builtin.append_ #[t, u] ty #[v, v2]; pure (Next.value r) : Sem Next).run C.P w) := by
 unfold yX
 split
 · rename_i q hq
   exact JK h hq hs hy
 · exact EX h hs hy
theorem Ju (h : br g U w) (hG : gZ C g) {ρ : Env} {a : Act} (hr : gr g ρ a.tmps) (mu : Bool) (c : Call) (ty : TypeId) :
 aw.Fits C g U (y1 C mu c ρ U) ((do let d <- resolve a.eval c ty; invoke d.target d.args : Sem Next).run C.P w) := by
 obtain ⟨callee, ⟨args⟩, ⟨argTypes⟩⟩ := c
 have e := fun x => sN hG hr x
 have fin : aw.Fits C g U (match callee, argTypes, args with
  | .value f, _, args => lz C.P (ρ.ev C f) (args.map (ρ.ev C))
  | .builtin .len, [t], [x] => F7 C.P t (ρ.ev C x) U
  | .builtin .append, [t, u], [s, y] => yX C.P t u mu (ρ.ev C s) (ρ.ev C y) U
  | .builtin .cap, [t], [x] => Fa (eO C.P t) (ρ.ev C x)
  | .builtin .min, _, [x, y] => ux (ρ.ev C x) (ρ.ev C y)
  | .builtin .max, _, [x, y] => wi (ρ.ev C x) (ρ.ev C y)
  | .builtin .clear, [t], [x] => xC C.P t (ρ.ev C x) U
  | _, _, _ => .bad) ((do let d <- resolve a.eval ⟨callee, ⟨args⟩, ⟨argTypes⟩⟩ ty; invoke d.target d.args : Sem Next).run C.P w) := by
  split
  · rename_i f
    have := QK (C := C) h (e f) (y4 hG hr args)
    have e2 : (args.map a.eval).toArray = (⟨args⟩ : Array Operand).map a.eval := by simp
    rw [e2] at this
    exact this
  · rename_i t x
    have := Mv (C := C) (ty := ty) h (t := t) (e x)
    simpa only [resolve, invoke, builtin, cA, cQ, cK, List.map_toArray, et, jk] using this
  · rename_i t u s y
    have := EY (C := C) (ty := ty) (mu := mu) h (t := t) (u := u) (e s) (e y)
    simpa only [resolve, invoke, builtin, cA, cQ, cK, List.map_toArray, et, jk] using this
  · rename_i t x
    have := Lb (C := C) (ty := ty) h (t := t) (e x)
    simpa only [resolve, invoke, builtin, cA, cQ, cK, List.map_toArray, et, jk] using this
  · rename_i x y
    have := MD (C := C) (ty := ty) (ts := ⟨argTypes⟩) h (e x) (e y)
    simpa only [resolve, invoke, builtin, cA, cQ, cK, List.map_toArray, et, jk] using this
  · rename_i x y
    have := MB (C := C) (ty := ty) (ts := ⟨argTypes⟩) h (e x) (e y)
    simpa only [resolve, invoke, builtin, cA, cQ, cK, List.map_toArray, et, jk] using this
  · rename_i t x
    have := Hh (C := C) (ty := ty) h (t := t) (e x)
    simpa only [resolve, invoke, builtin, cA, cQ, cK, List.map_toArray, et, jk] using this
  · trivial
 exact fin
theorem Rv (h : br g U w) (hG : gZ C g) {ρ : Env} {a : Act} (hr : gr g ρ a.tmps) (mu : Bool) (o : Oper) : aw.Fits C g U (jh C mu o.op ρ U) ((execOp a.eval o).run C.P w) := by
 have e := fun x => sN hG hr x
 obtain ⟨dst, op, type, pos, after, guard⟩ := o
 unfold jh
 dsimp only
 split
 · exact bo h (e _)
 · exact bo h (e _)
 · rename_i c x y
   unfold aY
   split
   · rename_i t ht
     have hc := e c
     rw [ht] at hc
     simp only [aB] at hc
     simp only [execOp, hc, asBool, cA, cQ, cK]
     refine bo h ?_
     cases t
     · exact e _
     · exact e _
   · trivial
 · exact Hb h
 · exact La h (e _)
 · obtain ⟨h1, h2⟩ := zx hG hr ‹_›
   exact He h h1 h2
 · obtain ⟨h1, h2⟩ := zx hG hr ‹_›
   exact Af h h1 h2
 · exact tR h (e _) (e _) (e _)
 · exact tR h (e _) (e _) (e _)
 · exact Kg h (e _)
 · exact HM h (e _) (e _)
 · exact CU h rfl (e _)
 · exact K8 h _ _ (e _) (e _)
 · exact Sv h (e _)
 · exact Jz h (e _)
 · exact BN h (e _)
 · rename_i fn first cap
   simp only [execOp, Instr.makeFunc, cA, cQ, cK]
   refine bo h ?_
   simp only [aB]
   exact ⟨first.toList.map a.eval, cap.toList.map a.eval, by congr 1 <;> (apply Array.ext'; simp), y4 hG hr _, y4 hG hr _⟩
 · simp only [execOp, Instr.makeMap, Option.map_none, cA, cQ, cK, run_newObj]
   exact Ko h
 · exact HL h (e _) (IY hG hr _) (IY hG hr _)
 · exact Bb h (e _)
 · exact CE h (e _)
 · exact BF h (e _) (e _)
 · exact Hr h (e _) (e _)
 · exact F9 h (e _) (e _)
 · exact Ej h (e _) _
 · exact HC h (e _)
 · exact HE h (e _)
 · exact AL h (e _)
 · exact BO h (e _) (e _)
 · exact Kq h (e _)
 · exact Hj h (e _)
 · exact Ju h hG hr mu _ _
 · trivial
end
end Go.Rip
