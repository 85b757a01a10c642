/- Lemmas for the proof: no conditions. -/
import Derived.Test.YtnfpmiiopiinbaaGreatDoorRipZz
import Derived.RangeFuncIn
import Derived.Laws.AppendOwn
import Derived.Below
import Derived.Laws.StructEq
import Derived.Lib.ConvBytes
import Derived.RangeFuncLeaves
import Derived.RangeFuncCalls
import Derived.Laws.MakeOwn
set_option linter.unusedVariables false
set_option linter.unusedSimpArgs false
set_option linter.loopingSimpArgs false
namespace Go.Rip
open Go.RowKit
structure Tok where
 n : Nat
 e : TypeId
 size : Nat
 deriving DecidableEq
inductive iW where
 | full
 | own (τ : Nat)
 | hC
inductive AV where
 | bool (b : Bool)
 | int (k : IntKind) (n : Int)
 | str (s : List UInt8)
 | a7
 | ax
 | jS
 | cX
 | cI
 | box (b off : Nat)
 | cj (l : List AV)
 | vec (n : Nat) (cap : iW) (l : List AV)
 | ms (b off n gy : Nat) (e : TypeId)
 | mp (m : Nat)
 | eL (ks vs : List AV)
 | func (fn : Fn) (first captured : List AV)
 | iface (t : TypeId) (v : AV)
 | agg (l : List AV)
 | aO (l : List AV)
 | o9 (o : Nat)
 | it (o : Nat)
 | any
instance : Inhabited AV := ⟨.any⟩
structure Place where
 aG : Nat
 e : TypeId
 size : Nat
structure eZ where
 ρ : Nat -> AV
 nt : Nat
 params : Array Tmp
 assign : Code
 body : Code
 state : LoopState
 eN : Option Code
 tag : Nat
inductive Live where
 | box (l : List AV)
 | tok (t : Tok)
 | mp (ks vs : List AV)
 | loop (L : eZ)
 | iter (rest : List (AV × AV)) (cur : Option (AV × AV))
 | xy (t : TypeId) (l : List AV)
structure Gh where
 base : Nat
 w0 : World
 place : Nat -> Option Place
 bO : Nat -> Nat -> Option Value
 bE : Nat -> Option (Array MapEntry × Nat)
 res : Nat -> Bool
def Gh.box (g : Gh) (b : Nat) : Option Place := g.place b
def Gh.tok (g : Gh) (b : Nat) : Option (Nat × Nat) := (g.place b).map fun p => (p.aG, p.size)
def Gh.mp (g : Gh) (b : Nat) : Option Nat := (g.place b).map (·.aG)
theorem Gh.iu {g : Gh} {b : Nat} {x : Nat × Nat} : g.tok b = some x ↔ ∃ p, g.place b = some p /\ p.aG = x.1 /\ p.size = x.2 := by
 unfold Gh.tok
 cases g.place b with
 | none => simp
 | some p => simp [Prod.ext_iff]
theorem Gh.mH {g : Gh} {b : Nat} {x : Nat} : g.mp b = some x ↔ ∃ p, g.place b = some p /\ p.aG = x := by
 unfold Gh.mp
 cases g.place b with
 | none => simp
 | some p => simp
def jf (g : Gh) (aG off : Nat) (vs : List Value) : Prop := ∀ i u, vs[i]? = some u -> g.bO aG (off + i) = some u
def nN (g : Gh) (cap : iW) (aG off n c : Nat) : Prop :=
 match cap with
 | .full => c = n
 | .own τ => off = 0 /\ g.tok τ = some (aG, c)
 | .hC => True
def gB : AV -> AV -> Bool
 | .int k a, .int k' b => decide (k = k') && decide (a < b)
 | .str a, .str b => decide (a < b)
 | _, _ => false
def my (ks : List AV) : Prop := ks.Pairwise (fun a b => gB a b = true)
def iv (es : Array MapEntry) (clock : Nat) : Prop := (es.toList.map (·.born)).Nodup /\ ∀ e ∈ es.toList, e.born < clock
mutual
def aw (g : Gh) : AV -> Value -> Prop
 | .bool b, v => v = .bool b
 | .int k n, v => v = .int k n
 | .str s, v => v = .string ⟨s.toArray⟩
 | .a7, v => v = .pointer none
 | .ax, v => v = .slice none 0 0
 | .jS, v => v = .map none
 | .cX, v => v = .nilFunc
 | .cI, v => v = .nilIface
 | .box b off, v => ∃ x, g.box b = some x /\ v = .pointer (some ⟨x.aG, off, none⟩)
 | .cj l, v => ∃ aG off vs, v = .pointer (some ⟨aG, off, none⟩) /\ jf g aG off vs /\ aD g l vs
 | .vec n cap l, v => ∃ aG off c vs, v = .slice (some ⟨aG, off, none⟩) n c /\ n <= c /\ c <= maxLen /\ nN g cap aG off n c /\ jf g aG off vs /\ aD g l vs
 | .ms b off n gy e, v => ∃ x c, g.box b = some x /\ v = .slice (some ⟨x.aG, off, none⟩) n c /\ n <= c /\ c <= maxLen /\ off + c * gy = x.size /\ x.e = e
 | .mp m, v => ∃ r, g.mp m = some r /\ v = .map (some r)
 | .eL ks vs, v => ∃ r es clock, ∃ l : List MapEntry, v = .map (some r) /\ g.bE r = some (es, clock) /\ l.Perm es.toList /\ my ks /\ aD g ks (l.map (·.key)) /\ aD g vs (l.map (·.val))
 | .func fn first captured, v => ∃ fs cs, v = .func fn (List.toArray fs) (List.toArray cs) /\ aD g first fs /\ aD g captured cs
 | .iface t x, v => ∃ u, v = .iface t u /\ aw g x u
 | .agg l, v => ∃ vs, v = .agg (List.toArray vs) /\ (∀ u ∈ vs, u.oneCell' = true) /\ aD g l vs
 | .aO l, v => ∃ vs, v = .tuple (List.toArray vs) /\ aD g l vs
 | .o9 o, v => ∃ x, g.place o = some x /\ v = .func (.yield x.aG) #[] #[]
 | .it o, v => ∃ x, g.place o = some x /\ v = .pointer (some ⟨x.aG, 0, none⟩)
 | .any, _ => True
def aD (g : Gh) : List AV -> List Value -> Prop
 | [], vs => vs = []
 | x :: xs, vs => ∃ u us, vs = u :: us /\ aw g x u /\ aD g xs us
end
structure Gh.Le (g g' : Gh) : Prop where
 base : g'.base = g.base
 w0 : g'.w0 = g.w0
 place : ∀ b x, g.place b = some x -> g'.place b = some x
 bO : ∀ b o x, g.bO b o = some x -> g'.bO b o = some x
 bE : ∀ b x, g.bE b = some x -> g'.bE b = some x
 res : ∀ b, g.res b = true -> g'.res b = true
 vr : ∀ b o, b < g.base -> g'.bO b o = g.bO b o
 sH : ∀ b, b < g.base -> g'.bE b = g.bE b
theorem Gh.Le.refl (g : Gh) : Gh.Le g g := ⟨rfl, rfl, fun _ _ h => h, fun _ _ _ h => h, fun _ _ h => h, fun _ h => h, fun _ _ _ => rfl, fun _ _ => rfl⟩
theorem Gh.Le.trans {a b c : Gh} (h : Gh.Le a b) (k : Gh.Le b c) : Gh.Le a c :=
 ⟨k.base.trans h.base, k.w0.trans h.w0, fun _ _ x => k.place _ _ (h.place _ _ x), fun _ _ _ x => k.bO _ _ _ (h.bO _ _ _ x), fun _ _ x => k.bE _ _ (h.bE _ _ x), fun _ x => k.res _ (h.res _ x),
   fun q o hq => (k.vr q o (by rw [h.base]; exact hq)).trans (h.vr q o hq), fun q hq => (k.sH q (by rw [h.base]; exact hq)).trans (h.sH q hq)⟩
structure Gh.pY (g g' : Gh) : Prop where
 place : ∀ b x, g.place b = some x -> g'.place b = some x
 bO : ∀ b o x, g.bO b o = some x -> g'.bO b o = some x
 bE : ∀ b x, g.bE b = some x -> g'.bE b = some x
theorem Gh.pY.tok {g g' : Gh} (h : Gh.pY g g') {b : Nat} {x : Nat × Nat} (hb : g.tok b = some x) : g'.tok b = some x := by
 obtain ⟨p, h1, h2, h3⟩ := Gh.iu.1 hb
 exact Gh.iu.2 ⟨p, h.place _ _ h1, h2, h3⟩
theorem Gh.pY.mp {g g' : Gh} (h : Gh.pY g g') {b x : Nat} (hb : g.mp b = some x) : g'.mp b = some x := by
 obtain ⟨p, h1, h2⟩ := Gh.mH.1 hb
 exact Gh.mH.2 ⟨p, h.place _ _ h1, h2⟩
theorem Gh.Le.r {g g' : Gh} (h : Gh.Le g g') : Gh.pY g g' := ⟨h.place, h.bO, h.bE⟩
theorem Gh.Le.box {g g' : Gh} (h : Gh.Le g g') (b : Nat) (x : Place) (hb : g.box b = some x) : g'.box b = some x := h.place b x hb
theorem Gh.Le.tok {g g' : Gh} (h : Gh.Le g g') (b : Nat) (x : Nat × Nat) (hb : g.tok b = some x) : g'.tok b = some x := h.r.tok hb
theorem Gh.Le.mp {g g' : Gh} (h : Gh.Le g g') (b : Nat) (x : Nat) (hb : g.mp b = some x) : g'.mp b = some x := h.r.mp hb
theorem jf.dN {g g' : Gh} (h : Gh.pY g g') {aG off : Nat} {vs : List Value} (hi : jf g aG off vs) : jf g' aG off vs := fun i u hu => h.bO _ _ _ (hi i u hu)
theorem nN.dN {g g' : Gh} (h : Gh.pY g g') {cap : iW} {aG off n c : Nat} (hi : nN g cap aG off n c) : nN g' cap aG off n c := by
 cases cap with
 | full => exact hi
 | own τ => exact ⟨hi.1, h.tok hi.2⟩
 | hC => trivial
mutual
theorem aw.dN {g g' : Gh} (h : Gh.pY g g') : ∀ (x : AV) (v : Value), aw g x v -> aw g' x v
 | .bool _, _, hr => hr
 | .int _ _, _, hr => hr
 | .str _, _, hr => hr
 | .a7, _, hr => hr
 | .ax, _, hr => hr
 | .jS, _, hr => hr
 | .cX, _, hr => hr
 | .cI, _, hr => hr
 | .box _ _, _, hr => by
   simp only [aw] at hr ⊢
   obtain ⟨x, hx, hv⟩ := hr
   exact ⟨x, h.place _ _ hx, hv⟩
 | .cj l, _, hr => by
   simp only [aw] at hr ⊢
   obtain ⟨aG, off, vs, hv, hi, hl⟩ := hr
   exact ⟨aG, off, vs, hv, hi.dN h, aD.dN h l vs hl⟩
 | .vec n cap l, _, hr => by
   simp only [aw] at hr ⊢
   obtain ⟨aG, off, c, vs, hv, h1, h2, hc, hi, hl⟩ := hr
   exact ⟨aG, off, c, vs, hv, h1, h2, hc.dN h, hi.dN h, aD.dN h l vs hl⟩
 | .ms _ _ _ _ _, _, hr => by
   simp only [aw] at hr ⊢
   obtain ⟨x, c, hx, r⟩ := hr
   exact ⟨x, c, h.place _ _ hx, r⟩
 | .mp _, _, hr => by
   simp only [aw] at hr ⊢
   obtain ⟨x, hx, hv⟩ := hr
   exact ⟨x, h.mp hx, hv⟩
 | .eL ks vs, _, hr => by
   simp only [aw] at hr ⊢
   obtain ⟨r, es, c, l, hv, he, hp, hs, h1, h2⟩ := hr
   exact ⟨r, es, c, l, hv, h.bE _ _ he, hp, hs, aD.dN h ks _ h1, aD.dN h vs _ h2⟩
 | .func fn first captured, _, hr => by
   simp only [aw] at hr ⊢
   obtain ⟨fs, cs, hv, h1, h2⟩ := hr
   exact ⟨fs, cs, hv, aD.dN h first _ h1, aD.dN h captured _ h2⟩
 | .iface t x, _, hr => by
   simp only [aw] at hr ⊢
   obtain ⟨u, hv, h1⟩ := hr
   exact ⟨u, hv, aw.dN h x _ h1⟩
 | .agg l, _, hr => by
   simp only [aw] at hr ⊢
   obtain ⟨vs, hv, h0, h1⟩ := hr
   exact ⟨vs, hv, h0, aD.dN h l _ h1⟩
 | .aO l, _, hr => by
   simp only [aw] at hr ⊢
   obtain ⟨vs, hv, h1⟩ := hr
   exact ⟨vs, hv, aD.dN h l _ h1⟩
 | .o9 o, _, hr => by
   simp only [aw] at hr ⊢
   obtain ⟨x, hx, hv⟩ := hr
   exact ⟨x, h.place _ _ hx, hv⟩
 | .it o, _, hr => by
   simp only [aw] at hr ⊢
   obtain ⟨x, hx, hv⟩ := hr
   exact ⟨x, h.place _ _ hx, hv⟩
 | .any, _, _ => by simp only [aw]
theorem aD.dN {g g' : Gh} (h : Gh.pY g g') : ∀ (l : List AV) (vs : List Value), aD g l vs -> aD g' l vs
 | [], _, hr => by simpa only [aD] using hr
 | x :: xs, _, hr => by
   simp only [aD] at hr ⊢
   obtain ⟨u, us, hv, h1, h2⟩ := hr
   exact ⟨u, us, hv, aw.dN h x _ h1, aD.dN h xs _ h2⟩
end
theorem jf.mono {g g' : Gh} (h : Gh.Le g g') {aG off : Nat} {vs : List Value} (hi : jf g aG off vs) : jf g' aG off vs := hi.dN h.r
theorem nN.mono {g g' : Gh} (h : Gh.Le g g') {cap : iW} {aG off n c : Nat} (hi : nN g cap aG off n c) : nN g' cap aG off n c := hi.dN h.r
theorem aw.mono {g g' : Gh} (h : Gh.Le g g') (x : AV) (v : Value) (hr : aw g x v) : aw g' x v := aw.dN h.r x v hr
theorem aD.mono {g g' : Gh} (h : Gh.Le g g') (l : List AV) (vs : List Value) (hr : aD g l vs) : aD g' l vs := aD.dN h.r l vs hr
theorem aD.length {g : Gh} : ∀ {l : List AV} {vs : List Value}, aD g l vs -> vs.length = l.length
 | [], _, h => by simp only [aD] at h; simp [h]
 | _ :: xs, _, h => by
   simp only [aD] at h
   obtain ⟨u, us, rfl, _, h2⟩ := h
   simp [aD.length h2]
theorem aD.append {g : Gh} : ∀ {l l' : List AV} {vs vs' : List Value}, aD g l vs -> aD g l' vs' -> aD g (l ++ l') (vs ++ vs')
 | [], _, _, _, h, h' => by simp only [aD] at h; subst h; simpa using h'
 | _ :: xs, _, _, _, h, h' => by
   simp only [aD, jb] at h ⊢
   obtain ⟨u, us, rfl, h1, h2⟩ := h
   exact ⟨u, us ++ _, rfl, h1, aD.append h2 h'⟩
theorem aD.get {g : Gh} : ∀ {l : List AV} {vs : List Value} {i : Nat} {x : AV}, aD g l vs -> l[i]? = some x -> ∃ v, vs[i]? = some v /\ aw g x v
 | [], _, _, _, _, hx => by simp at hx
 | y :: xs, _, 0, x, h, hx => by
   simp only [aD] at h
   obtain ⟨u, us, rfl, h1, h2⟩ := h
   simp at hx; subst hx; exact ⟨u, rfl, h1⟩
 | y :: xs, _, i + 1, x, h, hx => by
   simp only [aD] at h
   obtain ⟨u, us, rfl, h1, h2⟩ := h
   simp at hx
   obtain ⟨v, hv, hr⟩ := aD.get h2 hx
   exact ⟨v, by simpa using hv, hr⟩
theorem aD.drop {g : Gh} : ∀ {l : List AV} {vs : List Value} (n : Nat), aD g l vs -> aD g (l.drop n) (vs.drop n)
 | _, _, 0, h => by simpa using h
 | [], _, n + 1, h => by simp only [aD] at h; subst h; simp [aD]
 | _ :: xs, _, n + 1, h => by
   simp only [aD] at h
   obtain ⟨u, us, rfl, h1, h2⟩ := h
   simpa using aD.drop n h2
theorem aD.take {g : Gh} : ∀ {l : List AV} {vs : List Value} (n : Nat), aD g l vs -> aD g (l.take n) (vs.take n)
 | _, _, 0, _ => by simp [aD]
 | [], _, n + 1, h => by simp only [aD] at h; subst h; simp [aD]
 | _ :: xs, _, n + 1, h => by
   simp only [aD] at h
   obtain ⟨u, us, rfl, h1, h2⟩ := h
   simp only [List.take_succ_cons, aD]
   exact ⟨u, _, rfl, h1, aD.take n h2⟩
theorem aD.zg {g : Gh} : ∀ {l : List AV} {vs : List Value}, vs.length = l.length -> (∀ (i : Nat) (x : AV) (v : Value), l[i]? = some x -> vs[i]? = some v -> aw g x v) -> aD g l vs
 | [], vs, hl, _ => by simp only [aD]; simpa using hl
 | x :: xs, [], hl, _ => by simp at hl
 | x :: xs, v :: vs, hl, h => by
   simp only [aD]
   exact ⟨v, vs, rfl, h 0 x v rfl rfl, aD.zg (by simpa using hl) fun i x v hx hv => h (i + 1) x v (by simpa using hx) (by simpa using hv)⟩
def tc (g : Gh) (ks vs : List AV) (es : Array MapEntry) : Prop := ∃ l : List MapEntry, l.Perm es.toList /\ my ks /\ aD g ks (l.map (·.key)) /\ aD g vs (l.map (·.val))
def yn (g : Gh) (es : Array MapEntry) (seen : Array Nat) (rest : List (AV × AV)) (cur : Option (AV × AV)) : Prop :=
 (∃ l : List MapEntry, l.Perm (es.toList.filter fun e => !seen.contains e.born) /\ aD g (rest.map (·.1)) (l.map (·.key)) /\ aD g (rest.map (·.2)) (l.map (·.val))) /\
 (match cur with
  | none => True
  | some (k, v) => ∃ e ∈ es.toList, seen.back? = some e.born /\ aw g k e.key /\ aw g v e.val)
def jg (g : Gh) (w : World) (p : Place) : Live -> Prop
 | .box l => ∃ cur vs rest, w.heap[p.aG]? = some (.cells cur p.e (0, 0)) /\ cur.size = p.size /\ cur.toList = vs ++ rest /\ aD g l vs /\ (∀ u ∈ cur.toList, u.oneCell' = true) /\ (∀ o, g.bO p.aG o = none)
 | .tok t => ∃ cur, w.heap[p.aG]? = some (.cells cur t.e (0, 0)) /\ cur.size = p.size * t.size /\ t.n <= p.size /\ p.size <= maxLen /\ (∀ o, t.n * t.size <= o -> g.bO p.aG o = none)
 | .mp ks vs => ∃ es clock, w.heap[p.aG]? = some (.map es clock) /\ iv es clock /\ tc g ks vs es /\ g.bE p.aG = none
 | .loop L => ∃ fn tmps defers, w.heap[p.aG]? = some (.loop { state := L.state, pending := L.eN, fn, tmps, params := L.params, assign := L.assign, body := L.body, defers }) /\ tmps.size = L.nt /\ ∀ t, aw g (L.ρ t) (tmps.getD t undef)
 | .iter rest cur => ∃ m es clock seen, w.heap[p.aG]? = some (.mapIter (some m) clock seen clock) /\ g.bE m = some (es, clock) /\ yn g es seen rest cur
 | .xy t l => p.e = t /\ p.size = l.length /\ ∃ cur vs rest, w.heap[p.aG]? = some (.cells cur p.e (0, 0)) /\ cur.size = p.size /\ cur.toList = vs ++ rest /\ aD g l vs /\ (∀ u ∈ cur.toList, u.oneCell' = true) /\ (∀ o, g.bO p.aG o = none)
structure St where
 live : Nat -> Option Live
 nb : Option Nat
def St.box (U : St) (b : Nat) : Option (List AV) := match U.live b with | some (.box l) => some l | some (.xy _ l) => some l | _ => none
def St.tok (U : St) (b : Nat) : Option Tok := match U.live b with | some (.tok t) => some t | _ => none
def St.mp (U : St) (b : Nat) : Option (List AV × List AV) := match U.live b with | some (.mp ks vs) => some (ks, vs) | _ => none
def St.loop (U : St) (b : Nat) : Option eZ := match U.live b with | some (.loop L) => some L | _ => none
def St.iter (U : St) (b : Nat) : Option (List (AV × AV) × Option (AV × AV)) := match U.live b with | some (.iter r c) => some (r, c) | _ => none
theorem St.p5 {U : St} {b : Nat} {l : List AV} (h : U.box b = some l) : ∃ x, U.live b = some x /\ ∀ g w p, jg g w p x -> jg g w p (.box l) := by
 unfold St.box at h
 split at h
 · rename_i l' hl; cases h; exact ⟨_, hl, fun _ _ _ h => h⟩
 · rename_i t l' hl; cases h; exact ⟨_, hl, fun _ _ _ h => h.2.2⟩
 · cases h
theorem St.iu {U : St} {b : Nat} {l : Tok} : U.tok b = some l ↔ U.live b = some (.tok l) := by unfold St.tok; split <;> simp_all
theorem St.mH {U : St} {b : Nat} {l : List AV × List AV} : U.mp b = some l ↔ U.live b = some (.mp l.1 l.2) := by unfold St.mp; split <;> simp_all [Prod.ext_iff]
theorem St.kh {U : St} {b : Nat} {l : eZ} : U.loop b = some l ↔ U.live b = some (.loop l) := by unfold St.loop; split <;> simp_all
theorem St.tF {U : St} {b : Nat} {l : List (AV × AV) × Option (AV × AV)} : U.iter b = some l ↔ U.live b = some (.iter l.1 l.2) := by unfold St.iter; split <;> simp_all [Prod.ext_iff]
def St.set (U : St) (b : Nat) (x : Live) : St := { U with live := fun y => if y = b then some x else U.live y }
def St.del (U : St) (b : Nat) : St := { U with live := fun y => if y = b then none else U.live y }
def St.new (U : St) (b : Nat) (x : Live) : St := { live := fun y => if y = b then some x else U.live y, nb := U.nb.map (· + 1) }
def St.cN (U : St) (b : Nat) : Prop := U.live b = none /\ ∀ n, U.nb = some n -> b = n
structure aZ (g : Gh) (U : St) (w : World) : Prop where
 below : Below g.base g.w0 w
 le : g.base <= w.heap.size
 bO : ∀ aG o u, g.bO aG o = some u -> w.cell? ⟨aG, o, none⟩ = some u /\ u.oneCell' = true
 bE : ∀ r es c, g.bE r = some (es, c) -> w.heap[r]? = some (.map es c) /\ iv es c
 live : ∀ b x, U.live b = some x -> ∃ p, g.place b = some p /\ g.base <= p.aG /\ jg g w p x
 apart : ∀ b b' x x' p p', U.live b = some x -> U.live b' = some x' -> g.place b = some p -> g.place b' = some p' -> p.aG = p'.aG -> b = b'
 res : ∀ r, g.res r = true -> g.base <= r /\ w.heap[r]? = some (.deferred (some []))
 fin : ∃ N, (∀ n, U.nb = some n -> N = n) /\ ∀ b, N <= b -> g.place b = none
end Go.Rip
namespace Go.Rip
open Go.RowKit
structure St.Le (U ae : St) : Prop where
 live : ∀ b x, U.live b = some x -> ae.live b = some x
 nb : ∀ n, U.nb = some n -> ae.nb = some n
theorem St.Le.refl (U : St) : St.Le U U := ⟨fun _ _ h => h, fun _ h => h⟩
theorem St.Le.trans {a b c : St} (h : St.Le a b) (k : St.Le b c) : St.Le a c := ⟨fun _ _ x => k.live _ _ (h.live _ _ x), fun _ x => k.nb _ (h.nb _ x)⟩
theorem St.p7 (U : St) (b : Nat) : St.Le (U.del b) U := ⟨fun x y hx => by simp only [St.del] at hx; split at hx <;> simp_all, fun _ h => h⟩
theorem aZ.weaken {g : Gh} {U ae : St} {w : World} (h : aZ g ae w) (hl : St.Le U ae) : aZ g U w where
 below := h.below
 le := h.le
 bO := h.bO
 bE := h.bE
 live := fun b l hb => h.live b l (hl.live _ _ hb)
 apart := fun b b' l l' x x' h1 h2 => h.apart b b' l l' x x' (hl.live _ _ h1) (hl.live _ _ h2)
 res := h.res
 fin := let ⟨N, h1, h2⟩ := h.fin; ⟨N, fun n hn => h1 n (hl.nb n hn), h2⟩
theorem BG {w w' : World} {k : Nat} (h : w'.heap[k]? = w.heap[k]?) (o : Nat) : w'.cell? ⟨k, o, none⟩ = w.cell? ⟨k, o, none⟩ := by simp [World.cell?, h]
theorem aZ.IS {g : Gh} {U : St} {w : World} (h : aZ g U w) {aG o : Nat} {u : Value} (hi : g.bO aG o = some u) : aG < w.heap.size :=
 World.block_lt_of_cell? w ⟨aG, o, none⟩ (h.bO _ _ _ hi).1
theorem aZ.FE {g : Gh} {U : St} {w : World} (h : aZ g U w) {r : Nat} {x : Array MapEntry × Nat} (hi : g.bE r = some x) : r < w.heap.size :=
 (iE.1 (h.bE r x.1 x.2 hi).1).1
theorem aZ.wm {g : Gh} {U : St} {w : World} (h : aZ g U w) {q : Nat} (hq : w.heap.size <= q) (o : Nat) : g.bO q o = none := by
 cases e : g.bO q o with
 | none => rfl
 | some u => have := h.IS e; omega
theorem aZ.tz {g : Gh} {U : St} {w : World} (h : aZ g U w) {q : Nat} (hq : w.heap.size <= q) : g.bE q = none := by
 cases e : g.bE q with
 | none => rfl
 | some u => have := h.FE e; omega
theorem tc.dN {g g' : Gh} (h : Gh.pY g g') {ks vs : List AV} {es : Array MapEntry} (hm : tc g ks vs es) : tc g' ks vs es :=
 let ⟨l, h1, h2, h3, h4⟩ := hm; ⟨l, h1, h2, h3.dN h, h4.dN h⟩
theorem yn.dN {g g' : Gh} (h : Gh.pY g g') {es : Array MapEntry} {seen : Array Nat} {rest : List (AV × AV)} {cur : Option (AV × AV)} (hm : yn g es seen rest cur) : yn g' es seen rest cur := by
 obtain ⟨⟨l, h1, h2, h3⟩, h4⟩ := hm
 refine ⟨⟨l, h1, h2.dN h, h3.dN h⟩, ?_⟩
 cases cur with
 | none => trivial
 | some kv => obtain ⟨e, k1, k2, k3, k4⟩ := h4; exact ⟨e, k1, k2, k3.dN h, k4.dN h⟩
theorem jg.frame {g g' : Gh} {w w' : World} {p : Place} {x : Live} (h : jg g w p x) (hl : Gh.pY g g') (hb : w'.heap[p.aG]? = w.heap[p.aG]?) (hi : ∀ o, g'.bO p.aG o = g.bO p.aG o) (hm : g'.bE p.aG = g.bE p.aG) : jg g' w' p x := by
 cases x with
 | box l => obtain ⟨cur, vs, rest, h1, h2, h3, h4, h5, h6⟩ := h; exact ⟨cur, vs, rest, hb.trans h1, h2, h3, h4.dN hl, h5, fun o => (hi o).trans (h6 o)⟩
 | tok t => obtain ⟨cur, h1, h2, h3, h4, h5⟩ := h; exact ⟨cur, hb.trans h1, h2, h3, h4, fun o ho => (hi o).trans (h5 o ho)⟩
 | mp ks vs => obtain ⟨es, clock, h1, h2, h3, h4⟩ := h; exact ⟨es, clock, hb.trans h1, h2, h3.dN hl, hm.trans h4⟩
 | loop L => obtain ⟨fn, tmps, defers, h1, h2, h3⟩ := h; exact ⟨fn, tmps, defers, hb.trans h1, h2, fun t => (h3 t).dN hl⟩
 | iter rest cur => obtain ⟨m, es, clock, seen, h1, h2, h3⟩ := h; exact ⟨m, es, clock, seen, hb.trans h1, hl.bE _ _ h2, h3.dN hl⟩
 | xy t l => obtain ⟨e1, e2, cur, vs, rest, h1, h2, h3, h4, h5, h6⟩ := h; exact ⟨e1, e2, cur, vs, rest, hb.trans h1, h2, h3, h4.dN hl, h5, fun o => (hi o).trans (h6 o)⟩
theorem jg.lt {g : Gh} {w : World} {p : Place} {x : Live} (h : jg g w p x) : p.aG < w.heap.size := by
 have : ∃ o, w.heap[p.aG]? = some o := by
  cases x with
  | box l => obtain ⟨cur, vs, rest, h1, _⟩ := h; exact ⟨_, h1⟩
  | tok t => obtain ⟨cur, h1, _⟩ := h; exact ⟨_, h1⟩
  | mp ks vs => obtain ⟨es, clock, h1, _⟩ := h; exact ⟨_, h1⟩
  | loop L => obtain ⟨fn, tmps, defers, h1, _⟩ := h; exact ⟨_, h1⟩
  | iter rest cur => obtain ⟨m, es, clock, seen, h1, _⟩ := h; exact ⟨_, h1⟩
  | xy t l => obtain ⟨_, _, cur, vs, rest, h1, _⟩ := h; exact ⟨_, h1⟩
 exact (iE.1 this.choose_spec).1
theorem jg.FN {g : Gh} {w : World} {p : Place} {x : Live} (h : jg g w p x) {r : Nat} {ds : Option (List Deferred)} (hr : w.heap[r]? = some (.deferred ds)) : p.aG ≠ r := by
 intro e
 subst e
 cases x with
 | box l => obtain ⟨cur, vs, rest, h1, _⟩ := h; rw [hr] at h1; cases h1
 | tok t => obtain ⟨cur, h1, _⟩ := h; rw [hr] at h1; cases h1
 | mp ks vs => obtain ⟨es, clock, h1, _⟩ := h; rw [hr] at h1; cases h1
 | loop L => obtain ⟨fn, tmps, defers, h1, _⟩ := h; rw [hr] at h1; cases h1
 | iter rest cur => obtain ⟨m, es, clock, seen, h1, _⟩ := h; rw [hr] at h1; cases h1
 | xy t l => obtain ⟨_, _, cur, vs, rest, h1, _⟩ := h; rw [hr] at h1; cases h1
theorem aZ.change {g g' : Gh} {U : St} {w w' : World} (h : aZ g U w) (B : Nat) (hB : g.base <= B) (hle : Gh.Le g g') (pw : g'.place = g.place) (hres : g'.res = g.res)
 (hw : w'.os = w.os /\ w'.tape = w.tape /\ w'.output = w.output /\ w.heap.size <= w'.heap.size) (hk : ∀ k, k ≠ B -> k < w.heap.size -> w'.heap[k]? = w.heap[k]?)
 (kW : ∀ q o, q ≠ B -> g'.bO q o = g.bO q o) (PG : ∀ q, q ≠ B -> g'.bE q = g.bE q)
 (hi : ∀ o u, g'.bO B o = some u -> w'.cell? ⟨B, o, none⟩ = some u /\ u.oneCell' = true) (hm : ∀ es c, g'.bE B = some (es, c) -> w'.heap[B]? = some (.map es c) /\ iv es c)
 (fF : ∀ b x p, U.live b = some x -> g.place b = some p -> p.aG ≠ B) (X4 : g.res B = false) : aZ g' U w' := by
 have aJ : ∀ k o, w.heap[k]? = some o -> k ≠ B -> w'.heap[k]? = some o := fun k o Y8 hn => by rw [hk k hn (iE.1 Y8).1]; exact Y8
 exact {
  below := by
   rw [hle.base, hle.w0]
   exact h.below.trans ⟨hw.1, hw.2.1, hw.2.2.1, hw.2.2.2, fun k Y7 => hk k (by omega) (by have := h.le; omega)⟩
  le := by rw [hle.base]; exact Nat.le_trans h.le hw.2.2.2
  bO := fun q o u hu => by
   by_cases hq : q = B
   · subst hq; exact hi o u hu
   · rw [kW q o hq] at hu
     rw [BG (hk q hq (h.IS hu))]; exact h.bO _ _ _ hu
  bE := fun r es c hr => by
   by_cases hq : r = B
   · subst hq; exact hm es c hr
   · rw [PG r hq] at hr
     rw [hk r hq (h.FE hr)]; exact h.bE _ _ _ hr
  live := fun b x hb => by
   obtain ⟨p, h1, h2, h3⟩ := h.live b x hb
   have FB := fF b x p hb h1
   refine ⟨p, by rw [pw]; exact h1, by rw [hle.base]; exact h2, h3.frame hle.r (hk _ FB h3.lt) (fun o => kW _ _ FB) (PG _ FB)⟩
  apart := fun b b' x x' p p' h1 h2 h3 h4 h5 => by rw [pw] at h3 h4; exact h.apart b b' x x' p p' h1 h2 h3 h4 h5
  res := fun r hr => by
   rw [hres] at hr
   obtain ⟨h1, h2⟩ := h.res r hr
   rw [hle.base]
   exact ⟨h1, aJ _ _ h2 (fun e => by subst e; rw [X4] at hr; cases hr)⟩
  fin := by rw [pw]; exact h.fin }
theorem aZ.named {g : Gh} {U : St} {w : World} (h : aZ g U w) {b : Nat} {p : Place} {x : Live} (hb : g.place b = some p) (hB : g.base <= p.aG) (hx : jg g w p x)
 (fF : ∀ b' x' p', b' ≠ b -> U.live b' = some x' -> g.place b' = some p' -> p'.aG ≠ p.aG) : aZ g (U.set b x) w where
 below := h.below
 le := h.le
 bO := h.bO
 bE := h.bE
 live := fun b' x' dA => by
  simp only [St.set] at dA
  split at dA
  · rename_i e; subst e; cases dA; exact ⟨p, hb, hB, hx⟩
  · exact h.live b' x' dA
 apart := fun b1 b2 x1 x2 p1 p2 h1 h2 h3 h4 h5 => by
  simp only [St.set] at h1 h2
  by_cases e1 : b1 = b <;> by_cases e2 : b2 = b
  · rw [e1, e2]
  · rw [if_neg e2] at h2
    subst e1; rw [hb] at h3; cases h3
    exact absurd h5.symm (fF _ _ _ e2 h2 h4)
  · rw [if_neg e1] at h1
    subst e2; rw [hb] at h4; cases h4
    exact absurd h5 (fF _ _ _ e1 h1 h3)
  · rw [if_neg e1] at h1; rw [if_neg e2] at h2
    exact h.apart _ _ _ _ _ _ h1 h2 h3 h4 h5
 res := h.res
 fin := h.fin
def Gh.lr (g : Gh) (b : Nat) (p : Place) : Gh := { g with place := fun y => if y = b then some p else g.place y }
theorem Gh.gR (g : Gh) (b : Nat) (p : Place) : (g.lr b p).place b = some p := by simp [Gh.lr]
theorem Gh.kN (g : Gh) {b y : Nat} (p : Place) (h : y ≠ b) : (g.lr b p).place y = g.place y := by simp [Gh.lr, h]
theorem Gh.xk {g : Gh} {b : Nat} (p : Place) (h : g.place b = none) : Gh.Le g (g.lr b p) :=
 ⟨rfl, rfl, fun y x hy => by rw [Gh.kN _ _ (fun e => by subst e; rw [h] at hy; cases hy)]; exact hy, fun _ _ _ h => h, fun _ _ h => h, fun _ h => h, fun _ _ _ => rfl, fun _ _ => rfl⟩
theorem aZ.newName {g : Gh} {U : St} {w : World} (h : aZ g U w) (p : Place) (hB : g.base <= p.aG) (fF : ∀ b' x' p', U.live b' = some x' -> g.place b' = some p' -> p'.aG ≠ p.aG) :
 ∃ b, U.cN b /\ Gh.Le g (g.lr b p) /\ ∀ x, jg (g.lr b p) w p x -> aZ (g.lr b p) (U.new b x) w := by
 obtain ⟨N, YS, YT⟩ := h.fin
 have A6 : g.place N = none := YT N (de _)
 have Zd : U.live N = none := by
  cases e : U.live N with
  | none => rfl
  | some x => obtain ⟨p, h1, _⟩ := h.live N x e; rw [A6] at h1; cases h1
 refine ⟨N, ⟨Zd, YS⟩, Gh.xk p A6, fun x hx => ?_⟩
 have hle := Gh.xk (g := g) p A6
 have cm : ∀ b x, U.live b = some x -> b ≠ N := fun b x hb e => by subst e; rw [Zd] at hb; cases hb
 exact {
  below := h.below
  le := h.le
  bO := h.bO
  bE := h.bE
  live := fun b' x' dA => by
   simp only [St.new] at dA
   split at dA
   · rename_i e; subst e; cases dA; exact ⟨p, Gh.gR _ _ _, hB, hx⟩
   · obtain ⟨p', h1, h2, h3⟩ := h.live b' x' dA
     exact ⟨p', hle.place _ _ h1, h2, h3.frame hle.r rfl (fun _ => rfl) rfl⟩
  apart := fun b1 b2 x1 x2 p1 p2 h1 h2 h3 h4 h5 => by
   simp only [St.new] at h1 h2
   by_cases e1 : b1 = N <;> by_cases e2 : b2 = N
   · rw [e1, e2]
   · rw [if_neg e2] at h2; rw [Gh.kN _ _ e2] at h4
     subst e1; rw [Gh.gR] at h3; cases h3
     exact absurd h5.symm (fF _ _ _ h2 h4)
   · rw [if_neg e1] at h1; rw [Gh.kN _ _ e1] at h3
     subst e2; rw [Gh.gR] at h4; cases h4
     exact absurd h5 (fF _ _ _ h1 h3)
   · rw [if_neg e1] at h1; rw [if_neg e2] at h2
     rw [Gh.kN _ _ e1] at h3; rw [Gh.kN _ _ e2] at h4
     exact h.apart _ _ _ _ _ _ h1 h2 h3 h4 h5
  res := h.res
  fin := ⟨N + 1, fun n hn => by
   simp only [St.new, mv] at hn
   obtain ⟨m, hm, rfl⟩ := hn
   rw [YS m hm], fun b hb => by rw [Gh.kN _ _ (by omega)]; exact YT b (by omega)⟩ }
theorem aZ.grow {g : Gh} {U : St} {w w' : World} (h : aZ g U w) (hg : w.grownBy w' none) : aZ g U w' := by
 have hb : ∀ k, k < w.heap.size -> w'.heap[k]? = w.heap[k]? := fun k hk => hg.block k hk (by simp)
 refine h.change w.heap.size h.le (Gh.Le.refl g) rfl rfl ⟨hg.os, hg.tape, hg.output, hg.size⟩ (fun k _ hk => hb k hk) (fun _ _ _ => rfl) (fun _ _ => rfl) (fun o u hu => ?_) (fun es c hr => ?_) (fun b x p h1 h2 => ?_) ?_
 · rw [h.wm (de _)] at hu; cases hu
 · rw [h.tz (de _)] at hr; cases hr
 · obtain ⟨p', k1, _, k3⟩ := h.live b x h1
   rw [h2] at k1; cases k1
   exact Nat.ne_of_lt k3.lt
 · cases e : g.res w.heap.size with
   | false => rfl
   | true => have := (iE.1 (h.res _ e).2).1; omega
theorem iw (w : World) : w.grownBy w.drew none := ⟨rfl, rfl, rfl, de _, fun _ _ _ => rfl⟩
theorem aZ.Ar {g : Gh} {U : St} {w : World} (h : aZ g U w) {q : Nat} (hq : w.heap.size <= q) : g.res q = false := by
 cases e : g.res q with
 | false => rfl
 | true => have := (iE.1 (h.res _ e).2).1; omega
theorem aZ.tP {g : Gh} {U : St} {w : World} (h : aZ g U w) {b : Nat} {x : Live} {p : Place} (hb : U.live b = some x) (hp : g.place b = some p) : p.aG < w.heap.size := by
 obtain ⟨p', k1, _, k3⟩ := h.live b x hb
 rw [hp] at k1; cases k1
 exact k3.lt
theorem aZ.qH {g : Gh} {U : St} {w : World} (h : aZ g U w) {b : Nat} {x : Live} {p : Place} (hb : U.live b = some x) (hp : g.place b = some p) : g.res p.aG = false := by
 cases e : g.res p.aG with
 | false => rfl
 | true =>
   obtain ⟨p', k1, _, k3⟩ := h.live b x hb
   rw [hp] at k1; cases k1
   exact absurd rfl (k3.FN (h.res _ e).2)
theorem aZ.qv {g : Gh} {U : St} {w : World} (h : aZ g U w) (o : Obj) (e : TypeId) (size : Nat) (x : Live)
 (hx : ∀ g', Gh.Le g g' -> (∀ o, g'.bO w.heap.size o = none) -> g'.bE w.heap.size = none -> jg g' (w.alloc o) ⟨w.heap.size, e, size⟩ x) :
 ∃ b g', U.cN b /\ Gh.Le g g' /\ g'.place b = some ⟨w.heap.size, e, size⟩ /\ aZ g' (U.new b x) (w.alloc o) := by
 have hs := h.grow (w.grownBy_alloc o none)
 obtain ⟨b, h1, h2, h3⟩ := hs.newName ⟨w.heap.size, e, size⟩ h.le (fun b' x' p' k1 k2 => Nat.ne_of_lt (h.tP k1 k2))
 exact ⟨b, _, h1, h2, Gh.gR _ _ _, h3 x (hx _ h2 (fun o => h.wm (de _) o) (h.tz (de _)))⟩
end Go.Rip
namespace Go.Rip
open Go.RowKit
def St.bW (U : St) (b : Nat) (l : List AV) : St := U.set b (.box l)
def St.Yt (U : St) (b : Nat) (kv : List AV × List AV) : St := U.set b (.mp kv.1 kv.2)
theorem aZ.box {g : Gh} {U : St} {w : World} (h : aZ g U w) (b : Nat) (l : List AV) (hb : U.box b = some l) : ∃ x cur vs rest, g.box b = some x /\ g.base <= x.aG /\ w.heap[x.aG]? = some (.cells cur x.e (0, 0)) /\ cur.size = x.size /\ cur.toList = vs ++ rest /\ aD g l vs /\
 (∀ u ∈ cur.toList, u.oneCell' = true) /\ (∀ o, g.bO x.aG o = none) := by
 obtain ⟨y, hy, Vi⟩ := St.p5 hb
 obtain ⟨p, h1, h2, hp⟩ := h.live b _ hy
 obtain ⟨cur, vs, rest, h3, h4, h5, h6, h7, h8⟩ := Vi _ _ _ hp
 exact ⟨p, cur, vs, rest, h1, h2, h3, h4, h5, h6, h7, h8⟩
theorem aZ.tok {g : Gh} {U : St} {w : World} (h : aZ g U w) (τ : Nat) (t : Tok) (ht : U.tok τ = some t) : ∃ aG c cur, g.tok τ = some (aG, c) /\ g.base <= aG /\ w.heap[aG]? = some (.cells cur t.e (0, 0)) /\ cur.size = c * t.size /\ t.n <= c /\ c <= maxLen /\
 (∀ o, t.n * t.size <= o -> g.bO aG o = none) := by
 obtain ⟨p, h1, h2, cur, h3, h4, h5, h6, h7⟩ := h.live τ _ (St.iu.1 ht)
 exact ⟨p.aG, p.size, cur, Gh.iu.2 ⟨p, h1, rfl, rfl⟩, h2, h3, h4, h5, h6, h7⟩
theorem aZ.mp {g : Gh} {U : St} {w : World} (h : aZ g U w) (m : Nat) (kv : List AV × List AV) (hm : U.mp m = some kv) : ∃ r es clock, g.mp m = some r /\ g.base <= r /\ w.heap[r]? = some (.map es clock) /\ iv es clock /\ tc g kv.1 kv.2 es /\ g.bE r = none := by
 obtain ⟨p, h1, h2, es, clock, h3, h4, h5, h6⟩ := h.live m _ (St.mH.1 hm)
 exact ⟨p.aG, es, clock, Gh.mH.2 ⟨p, h1, rfl⟩, h2, h3, h4, h5, h6⟩
theorem aZ.rewrite {g : Gh} {U : St} {w w' : World} (h : aZ g U w) {b : Nat} {x x' : Live} {p : Place} (hb : U.live b = some x) (hp : g.place b = some p)
 (hw : w'.os = w.os /\ w'.tape = w.tape /\ w'.output = w.output /\ w.heap.size <= w'.heap.size) (hk : ∀ k, k ≠ p.aG -> k < w.heap.size -> w'.heap[k]? = w.heap[k]?)
 (hi : ∀ o, g.bO p.aG o = none) (hm : g.bE p.aG = none) (hx : jg g w' p x') : aZ g (U.set b x') w' := by
 obtain ⟨p', k1, k2, k3⟩ := h.live b x hb
 rw [hp] at k1; cases k1
 have fF : ∀ b' x' p', b' ≠ b -> U.live b' = some x' -> g.place b' = some p' -> p'.aG ≠ p.aG := fun b' x' p' cm h1 h2 e => cm (h.apart _ _ _ _ _ _ h1 hb h2 hp e)
 have hd : ∀ b' x' p', (U.del b).live b' = some x' -> g.place b' = some p' -> p'.aG ≠ p.aG := fun b' x' p' h1 h2 => by
  simp only [St.del] at h1
  split at h1
  · cases h1
  · rename_i e; exact fF _ _ _ e h1 h2
 have h1 := (h.weaken (St.p7 U b)).change p.aG k2 (Gh.Le.refl g) rfl rfl hw hk (fun _ _ _ => rfl) (fun _ _ => rfl) (fun o u hu => by rw [hi] at hu; cases hu) (fun es c hr => by rw [hm] at hr; cases hr) hd (h.qH hb hp)
 have h2 := h1.named hp k2 hx (fun b' x' p' _ q1 q2 => hd b' x' p' q1 q2)
 have e : (U.del b).set b x' = U.set b x' := by
  simp only [St.del, St.set, St.mk.injEq, and_true]
  funext y
  split <;> rfl
 rw [<- e]; exact h2
theorem aZ.c7 {g : Gh} {U : St} {w : World} (h : aZ g U w) (e : TypeId) (cur : Array Value) (vs rest : List Value) (l : List AV) (hc : cur.toList = vs ++ rest) (hl : aD g l vs) (h1 : ∀ u ∈ cur.toList, u.oneCell' = true) :
 ∃ b g', U.cN b /\ Gh.Le g g' /\ g'.box b = some ⟨w.heap.size, e, cur.size⟩ /\ aZ g' (U.new b (.box l)) (w.alloc (.cells cur e)) :=
 h.qv (.cells cur e) e cur.size (.box l) fun g' hle hi hm => ⟨cur, vs, rest, heap_alloc_new w _, rfl, hc, hl.mono hle, h1, hi⟩
theorem aZ.Js {g : Gh} {U : St} {w : World} (h : aZ g U w) (e : TypeId) (cur : Array Value) (vs rest : List Value) (hc : cur.toList = vs ++ rest) (h1 : ∀ u ∈ cur.toList, u.oneCell' = true) :
 ∃ g', Gh.Le g g' /\ jf g' w.heap.size 0 vs /\ (∀ o, vs.length <= o -> g'.bO w.heap.size o = none) /\ g'.place = g.place /\ aZ g' U (w.alloc (.cells cur e)) := by
 let g' : Gh := { g with bO := fun aG o => if aG = w.heap.size then vs[o]? else g.bO aG o }
 have mX : ∀ o, g'.bO w.heap.size o = vs[o]? := fun o => by show (if w.heap.size = w.heap.size then _ else _) = _; rw [if_pos rfl]
 have hold : ∀ aG o, aG ≠ w.heap.size -> g'.bO aG o = g.bO aG o := fun aG o hx => by show (if aG = w.heap.size then _ else _) = _; rw [if_neg hx]
 have hle : Gh.Le g g' := ⟨rfl, rfl, fun _ _ h => h, fun aG o u hu => by
  rw [hold _ _ (fun e => by subst e; rw [h.wm (de _)] at hu; cases hu)]; exact hu, fun _ _ h => h, fun _ h => h, fun q o hq => hold _ _ (by have := h.le; omega), fun _ _ => rfl⟩
 have hg := w.grownBy_alloc (.cells cur e) none
 refine ⟨g', hle, fun i u hu => by rw [cq, mX]; exact hu, fun o ho => by rw [mX]; simpa using ho, rfl, ?_⟩
 refine h.change w.heap.size h.le hle rfl rfl ⟨hg.os, hg.tape, hg.output, hg.size⟩ (fun k _ hk => hg.block k hk (by simp)) (fun q o hq => hold q o hq) (fun _ _ => rfl) (fun o u hu => ?_) (fun es c hr => ?_) (fun b x p k1 k2 => Nat.ne_of_lt (h.tP k1 k2)) (h.Ar (de _))
 · rw [mX] at hu
   have YX : cur[o]? = some u := by
    rw [<- iH, hc, tW (by
     rcases eG o vs.length with h | h
     · exact h
     · simp [oD h] at hu)]
    exact hu
   exact ⟨by rw [cell_of_row _ _ _ cur e (0, 0) (heap_alloc_new w _)]; exact YX, h1 u (fB (by rw [iH]; exact YX))⟩
 · have : g.bE w.heap.size = some (es, c) := hr
   rw [h.tz (de _)] at this; cases this
theorem aZ.kF {g : Gh} {U : St} {w : World} (h : aZ g U w) {r : Nat} {c : Array Value} {e : TypeId} {f : Nat × Nat} (hh : w.heap[r]? = some (.cells c e f)) : g.bE r = none := by
 cases e : g.bE r with
 | none => rfl
 | some x => have := (h.bE r x.1 x.2 e).1; rw [hh] at this; cases this
theorem aZ.setRow {g : Gh} {U : St} {w : World} (h : aZ g U w) {b : Nat} {l l' : List AV} {x : Place} (hb : U.box b = some l) (hx : g.box b = some x)
 (cur : Array Value) (vs rest : List Value) (dE : cur.size = x.size) (hc : cur.toList = vs ++ rest) (hl : aD g l' vs) (h1 : ∀ u ∈ cur.toList, u.oneCell' = true) :
 aZ g (U.bW b l') (w.setRow x.aG cur) := by
 obtain ⟨x', Ub, vs0, Ym, k1, k2, k3, k4, k5, k6, k7, k8⟩ := h.box b l hb
 rw [hx] at k1; cases k1
 obtain ⟨y, hy, _⟩ := St.p5 hb
 exact h.rewrite hy hx ⟨rfl, rfl, rfl, by simp⟩ (fun k hk _ => setRow_other _ _ _ _ hk) k8 (h.kF k3) ⟨cur, vs, rest, setRow_heap w x.aG Ub cur x.e (0, 0) k3, dE, hc, hl, h1, k8⟩
theorem aZ.Yl {g : Gh} {U : St} {w : World} (h : aZ g U w) {b : Nat} {l : List AV} (hb : U.box b = some l) : aZ g (U.bW b l) w := by
 obtain ⟨y, hy, Vi⟩ := St.p5 hb
 obtain ⟨p, h1, h2, hp⟩ := h.live b _ hy
 obtain ⟨cur, vs, rest, h3, h4, h5, h6, h7, h8⟩ := Vi _ _ _ hp
 exact h.rewrite hy h1 ⟨rfl, rfl, rfl, de _⟩ (fun _ _ _ => rfl) h8 (h.kF h3) ⟨cur, vs, rest, h3, h4, h5, h6, h7, h8⟩
theorem Ai {cur cur' : Array Value} {a : Nat} {news : List Value} (ha : a <= cur.size) (Ft : cur'.toList = cur.toList.take a ++ news ++ cur.toList.drop (a + news.length)) (o : Nat) :
 cur'[o]? = if o < a then cur[o]? else if o < a + news.length then news[o - a]? else cur[o]? := by
 rw [<- iH, Ft, qD]
 have hl : (cur.toList.take a).length = a := by simp; omega
 by_cases h1 : o < a
 · rw [if_pos h1, tW (by omega), List.getElem?_take, if_pos h1, iH]
 · rw [if_neg h1, List.getElem?_append_right (by omega), hl]
   by_cases h2 : o < a + news.length
   · rw [if_pos h2, tW (by omega)]
   · rw [if_neg h2, List.getElem?_append_right (by omega), List.getElem?_drop, iH]
     congr 1; omega
theorem aZ.Wg {g : Gh} {U : St} {w : World} (h : aZ g U w) {τ : Nat} {t : Tok} {aG c : Nat} (ht : U.tok τ = some t) (hg : g.tok τ = some (aG, c))
 (cur cur' : Array Value) (news : List Value) (m : Nat) (GJ : w.heap[aG]? = some (.cells cur t.e (0, 0))) (hlen : news.length = m * t.size) (mh : t.n + m <= c)
 (Ft : cur'.toList = cur.toList.take (t.n * t.size) ++ news ++ cur.toList.drop (t.n * t.size + news.length)) (h1 : ∀ u ∈ news, u.oneCell' = true) :
 ∃ tb g', (U.del τ).cN tb /\ Gh.Le g g' /\ g'.tok tb = some (aG, c) /\ jf g' aG (t.n * t.size) news /\ aZ g' ((U.del τ).new tb (.tok ⟨t.n + m, t.e, t.size⟩)) (w.setRow aG cur') := by
 obtain ⟨p, hp, FB, Zj⟩ := Gh.iu.1 hg
 dsimp only at FB Zj
 subst FB Zj
 obtain ⟨p', k1, k2, Ub, k3, k4, k5, k6, k7⟩ := h.live τ _ (St.iu.1 ht)
 rw [hp] at k1; cases k1
 rw [GJ] at k3; cases k3
 have qf : (t.n + m) * t.size <= cur.size := by rw [k4]; exact Nat.mul_le_mul_right _ mh
 have A0 : (t.n + m) * t.size = t.n * t.size + news.length := by rw [hlen, Nat.add_mul]
 have dE : cur'.size = cur.size := by
  have := congrArg List.length Ft
  simp only [ph, fU, List.length_take, List.length_drop] at this
  omega
 let g' : Gh := { g with bO := fun q o => if q = p.aG /\ t.n * t.size <= o /\ o < t.n * t.size + news.length then news[o - t.n * t.size]? else g.bO q o }
 have kW : ∀ q o, q ≠ p.aG -> g'.bO q o = g.bO q o := fun q o hq => by
  show (if _ then _ else _) = _
  rw [if_neg (fun e => hq e.1)]
 have hle : Gh.Le g g' := ⟨rfl, rfl, fun _ _ h => h, fun q o u hu => by
  show (if _ then _ else _) = _
  rw [if_neg (fun e => by obtain ⟨rfl, e2, _⟩ := e; rw [k7 o e2] at hu; cases hu)]; exact hu, fun _ _ h => h, fun _ h => h, fun q o hq => kW _ _ (by omega), fun _ _ => rfl⟩
 have tu := setRow_heap w p.aG cur cur' t.e (0, 0) GJ
 have pd := fun o => Ai (cur := cur) (cur' := cur') (a := t.n * t.size) (news := news) (by omega) Ft o
 have fF : ∀ b' x' p', (U.del τ).live b' = some x' -> g.place b' = some p' -> p'.aG ≠ p.aG := fun b' x' p' h1 h2 e => by
  simp only [St.del] at h1
  split at h1
  · cases h1
  · rename_i ne; exact ne (h.apart _ _ _ _ _ _ h1 (St.iu.1 ht) h2 hp e)
 have hs := (h.weaken (St.p7 U τ)).change (w' := w.setRow p.aG cur') p.aG k2 hle rfl rfl ⟨rfl, rfl, rfl, by simp⟩ (fun k hk _ => setRow_other _ _ _ _ hk) kW (fun _ _ => rfl) (fun o u hu => by
  rw [cell_of_row _ _ _ cur' t.e (0, 0) tu, pd]
  have mb : (if p.aG = p.aG /\ t.n * t.size <= o /\ o < t.n * t.size + news.length then news[o - t.n * t.size]? else g.bO p.aG o) = some u := hu
  by_cases ho : o < t.n * t.size
  · rw [if_pos ho]
    rw [if_neg (by omega)] at mb
    have := h.bO _ _ _ mb
    rw [cell_of_row _ _ _ cur t.e (0, 0) GJ] at this
    exact this
  · rw [if_neg ho]
    by_cases PO : o < t.n * t.size + news.length
    · rw [if_pos PO]
      rw [if_pos ⟨rfl, by omega, PO⟩] at mb
      exact ⟨mb, h1 u (fB mb)⟩
    · rw [if_neg (by omega)] at mb
      rw [k7 o (by omega)] at mb; cases mb) (fun es c hr => by
  have hr : g.bE p.aG = some (es, c) := hr
  rw [h.kF GJ] at hr; cases hr) fF (h.qH (St.iu.1 ht) hp)
 obtain ⟨tb, f1, f2, f3⟩ := hs.newName p k2 fF
 refine ⟨tb, _, f1, hle.trans f2, Gh.iu.2 ⟨p, Gh.gR _ _ _, rfl, rfl⟩, fun i u hu => ?_, f3 _ ⟨cur', tu, by rw [dE]; exact k4, mh, k6, fun o ho => ?_⟩⟩
 · have hi : i < news.length := by
    rcases eG i news.length with h | h
    · exact h
    · simp [oD h] at hu
   show (if _ then _ else _) = _
   rw [if_pos ⟨rfl, by omega, by omega⟩, Nat.add_sub_cancel_left]; exact hu
 · have ho : (t.n + m) * t.size <= o := ho
   show (if _ then _ else _) = _
   rw [if_neg (by omega)]; exact k7 o (by omega)
theorem aZ.rename {g : Gh} {U : St} {w : World} (h : aZ g U w) {b : Nat} {x : Live} {p : Place} (hb : U.live b = some x) (hp : g.place b = some p) :
 ∃ b' g', (U.del b).cN b' /\ Gh.Le g g' /\ g'.place b' = some p /\ aZ g' ((U.del b).new b' x) w := by
 obtain ⟨p', k1, k2, k3⟩ := h.live b x hb
 rw [hp] at k1; cases k1
 obtain ⟨b', f1, f2, f3⟩ := (h.weaken (St.p7 U b)).newName p k2 (fun b' x' p' h1 h2 e => by
  simp only [St.del] at h1
  split at h1
  · cases h1
  · rename_i ne; exact ne (h.apart _ _ _ _ _ _ h1 hb h2 hp e))
 exact ⟨b', _, f1, f2, Gh.gR _ _ _, f3 x (k3.frame f2.r rfl (fun _ => rfl) rfl)⟩
theorem aZ.kI {g : Gh} {U : St} {w : World} (h : aZ g U w) (e : TypeId) (size n c : Nat) (cur : Array Value) (vs rest : List Value) (hc : cur.toList = vs ++ rest) (h1 : ∀ u ∈ cur.toList, u.oneCell' = true)
 (vp : vs.length = n * size) (qf : cur.size = c * size) (AZ : n <= c) (sB : c <= maxLen) :
 ∃ τ g', U.cN τ /\ Gh.Le g g' /\ g'.tok τ = some (w.heap.size, c) /\ jf g' w.heap.size 0 vs /\ aZ g' (U.new τ (.tok ⟨n, e, size⟩)) (w.alloc (.cells cur e)) := by
 obtain ⟨g1, CT, kW, fF, pw, hs⟩ := h.Js e cur vs rest hc h1
 obtain ⟨τ, f1, f2, f3⟩ := hs.newName ⟨w.heap.size, e, c⟩ (by rw [CT.base]; exact h.le) (fun b' x' p' k1 k2 => by rw [pw] at k2; exact Nat.ne_of_lt (h.tP k1 k2))
 exact ⟨τ, _, f1, CT.trans f2, Gh.iu.2 ⟨_, Gh.gR _ _ _, rfl, rfl⟩, kW, f3 _ ⟨cur, heap_alloc_new w _, qf, AZ, sB, fun o ho => fF o (by rw [vp]; exact ho)⟩⟩
theorem aZ.freeze {g : Gh} {U : St} {w : World} (h : aZ g U w) {b : Nat} {l : List AV} {x : Place} (hb : U.box b = some l) (hx : g.box b = some x) :
 ∃ g' vs, Gh.Le g g' /\ g'.place = g.place /\ jf g' x.aG 0 vs /\ aD g l vs /\ aZ g' (U.del b) w := by
 obtain ⟨x', cur, vs, rest, k1, k2, k3, k4, k5, k6, k7, k8⟩ := h.box b l hb
 rw [hx] at k1; cases k1
 let g' : Gh := { g with bO := fun q o => if q = x.aG then cur[o]? else g.bO q o }
 have mX : ∀ o, g'.bO x.aG o = cur[o]? := fun o => by show (if x.aG = x.aG then _ else _) = _; rw [if_pos rfl]
 have hold : ∀ q o, q ≠ x.aG -> g'.bO q o = g.bO q o := fun q o hq => by show (if q = x.aG then _ else _) = _; rw [if_neg hq]
 have hle : Gh.Le g g' := ⟨rfl, rfl, fun _ _ h => h, fun q o u hu => by
  rw [hold _ _ (fun e => by subst e; rw [k8] at hu; cases hu)]; exact hu, fun _ _ h => h, fun _ h => h, fun q o hq => hold _ _ (by omega), fun _ _ => rfl⟩
 refine ⟨g', vs, hle, rfl, fun i u hu => by
  have hi : i < vs.length := by
   rcases eG i vs.length with h | h
   · exact h
   · simp [oD h] at hu
  rw [cq, mX, <- iH, k5, tW hi]; exact hu, k6, ?_⟩
 obtain ⟨y, hy, _⟩ := St.p5 hb
 refine (h.weaken (St.p7 U b)).change x.aG k2 hle rfl rfl ⟨rfl, rfl, rfl, de _⟩ (fun _ _ _ => rfl) hold (fun _ _ => rfl) (fun o u hu => ?_) (fun es c hr => ?_) (fun b' x' p' h1 h2 e => ?_) (h.qH hy hx)
 · rw [mX] at hu
   rw [cell_of_row _ _ _ cur x.e (0, 0) k3]
   exact ⟨hu, k7 u (fB (by rw [iH]; exact hu))⟩
 · have hr : g.bE x.aG = some (es, c) := hr
   rw [h.kF k3] at hr; cases hr
 · simp only [St.del] at h1
   split at h1
   · cases h1
   · rename_i ne; exact ne (h.apart _ _ _ _ _ _ h1 hy h2 hx e)
theorem aZ.JT {g : Gh} {U : St} {w : World} (h : aZ g U w) {m r : Nat} {kv kv' : List AV × List AV} {es su : Array MapEntry} {clock sn : Nat} (hm : U.mp m = some kv) (hg : g.mp m = some r) (hh : w.heap[r]? = some (.map es clock))
 (h1 : tc g kv'.1 kv'.2 su) (h2 : iv su sn) :
 aZ g (U.Yt m kv') { w with heap := w.heap.setIfInBounds r (Obj.map su sn) } := by
 obtain ⟨p, hp, rfl⟩ := Gh.mH.1 hg
 obtain ⟨p', k1, k2, es0, cl0, k3, k4, k5, k6⟩ := h.live m _ (St.mH.1 hm)
 rw [hp] at k1; cases k1
 have aJ := (iE.1 hh).1
 have cm : ∀ k, k ≠ p.aG -> (w.heap.setIfInBounds p.aG (Obj.map su sn))[k]? = w.heap[k]? := fun k hk => Array.getElem?_setIfInBounds_ne (Ne.symm hk)
 have mX : (w.heap.setIfInBounds p.aG (Obj.map su sn))[p.aG]? = some (Obj.map su sn) := by simp [aJ]
 exact h.rewrite (St.mH.1 hm) hp ⟨rfl, rfl, rfl, by simp⟩ (fun k hk _ => cm k hk) (fun o => by
  cases e : g.bO p.aG o with
  | none => rfl
  | some u => have := (h.bO _ _ _ e).1; simp [World.cell?, hh] at this) k6 ⟨su, sn, mX, h2, h1, k6⟩
theorem aZ.shut {g : Gh} {U : St} {w : World} (h : aZ g U w) {r : Nat} (hr : g.res r = true) : aZ { g with res := fun x => if x = r then false else g.res x } U { w with heap := w.heap.setIfInBounds r (Obj.deferred none) } := by
 obtain ⟨k2, hh⟩ := h.res r hr
 have cm : ∀ k, k ≠ r -> (w.heap.setIfInBounds r (Obj.deferred none))[k]? = w.heap[k]? := fun k hk => Array.getElem?_setIfInBounds_ne (Ne.symm hk)
 have hl : Gh.pY g { g with res := fun x => if x = r then false else g.res x } := ⟨fun _ _ h => h, fun _ _ _ h => h, fun _ _ h => h⟩
 exact {
  below := h.below.trans ⟨rfl, rfl, rfl, by simp, fun k hk => cm k (by have := h.le; omega)⟩
  le := by simpa using h.le
  bO := fun aG o u hi => by
   have ik := h.bO _ _ _ hi
   have : World.cell? { w with heap := w.heap.setIfInBounds r (Obj.deferred none) } ⟨aG, o, none⟩ = w.cell? ⟨aG, o, none⟩ := by
    simp only [World.cell?]
    rw [cm aG (fun e => by subst e; simp [World.cell?, hh] at ik)]
   rw [this]; exact ik
  bE := fun r' es c hr => by
   obtain ⟨h1, h2⟩ := h.bE r' es c hr
   refine ⟨?_, h2⟩
   show (w.heap.setIfInBounds r (Obj.deferred none))[r']? = _
   rw [cm r' (fun e => by subst e; rw [hh] at h1; cases h1)]; exact h1
  live := fun b x hb => by
   obtain ⟨p, h1, h2, h3⟩ := h.live b x hb
   exact ⟨p, h1, h2, h3.frame hl (cm _ (h3.FN hh)) (fun _ => rfl) rfl⟩
  apart := h.apart
  res := fun r' qm => by
   have qm : (if r' = r then false else g.res r') = true := qm
   split at qm
   · cases qm
   · rename_i e
     obtain ⟨q1, q2⟩ := h.res r' qm
     exact ⟨q1, by show (w.heap.setIfInBounds r (Obj.deferred none))[r']? = _; rw [cm r' e]; exact q2⟩
  fin := h.fin }
theorem aZ.RL {g : Gh} {U : St} {w : World} (h : aZ g U w) : Gh.Le g { g with res := fun x => if x = w.heap.size then true else g.res x } /\ aZ { g with res := fun x => if x = w.heap.size then true else g.res x } U (w.alloc (.deferred (some []))) := by
 have hl : Gh.pY g { g with res := fun x => if x = w.heap.size then true else g.res x } := ⟨fun _ _ h => h, fun _ _ _ h => h, fun _ _ h => h⟩
 refine ⟨⟨rfl, rfl, fun _ _ h => h, fun _ _ _ h => h, fun _ _ h => h, fun b hb => by show (if _ then _ else _) = _; split <;> simp_all, fun _ _ _ => rfl, fun _ _ => rfl⟩, ?_⟩
 have hs := h.grow (w.grownBy_alloc (.deferred (some [])) none)
 exact {
  below := hs.below
  le := hs.le
  bO := hs.bO
  bE := hs.bE
  live := fun b x hb => by
   obtain ⟨p, h1, h2, h3⟩ := hs.live b x hb
   exact ⟨p, h1, h2, h3.frame hl rfl (fun _ => rfl) rfl⟩
  apart := hs.apart
  res := fun r hr => by
   have hr : (if r = w.heap.size then true else g.res r) = true := hr
   split at hr
   · rename_i e; subst e; exact ⟨h.le, heap_alloc_new w _⟩
   · exact hs.res r hr
  fin := hs.fin }
end Go.Rip
namespace Go.Rip
open Go.RowKit
def jx : Value -> Option AV
 | .bool b => some (.bool b)
 | .int k n => some (.int k n)
 | .string s => some (.str s.data.toList)
 | .pointer none => some .a7
 | .slice none 0 0 => some .ax
 | .map none => some .jS
 | .nilFunc => some .cX
 | .nilIface => some .cI
 | _ => none
def MV : Option (List AV) -> AV
 | some l => .agg l
 | none => .any
def AO : Value -> AV
 | .agg cs => MV (cs.toList.mapM jx)
 | .func fn f c => if f.isEmpty && c.isEmpty then .func fn [] [] else .any
 | .tuple vs => if vs.isEmpty then .aO [] else .any
 | v => (jx v).getD .any
def zO : TypeDesc -> Bool
 | .struct _ | .array _ _ => true
 | _ => false
def kY (P : Program) (t : TypeId) : Option (Bool × Nat) :=
 match P.info? t, P.underlying t with
 | some i, some d => some (zO d, i.size)
 | _, _ => none
def mV (P : Program) (t : TypeId) : Option (List AV) := ((P.info? t).bind (·.zero)).bind fun z => z.cells.toList.mapM jx
def eg (P : Program) (t : TypeId) : Option (TypeId × Nat) :=
 match P.underlying t with
 | some (.slice e) => match P.info? e with
   | some i => match i.zero with
     | some z => if z.cells.size = i.size /\ 0 < i.size /\ i.bytes <= 32768 /\ z.cells.all (·.oneCell') then some (e, i.size) else none
     | none => none
   | none => none
 | _ => none
def u3 (P : Program) (s : TypeId) (f : Nat) : Option Nat :=
 match P.underlying s with
 | some (.struct fields) => match fields[f]? with
   | some x => if P.cellsOf x.type ≠ 0 then some x.offset else none
   | none => none
 | _ => none
def wE (P : Program) (t : TypeId) : Option (List (Nat × Nat)) :=
 match P.underlying t with
 | some (.struct fields) => if fields.all (fun f => (P.info? f.type).isSome) then some (fields.toList.map fun f => (f.offset, P.cellsOf f.type)) else none
 | _ => none
def dz (P : Program) (f : FuncId) : Bool :=
 match P.funcs[f]? with
 | some fn => fn.body.isSome && !(fn.name == "runtime.NumGoroutine")
 | none => false
structure cr where
 P : Program
 u6 : Nat -> AV
 fixed : Nat -> Option (Array Value) := fun _ => none
def fJ (C : cr) (g : Gh) : Prop := (∀ i, aw g (C.u6 i) (.pointer (some ⟨i, 0, none⟩))) /\ ∀ i cs, C.fixed i = some cs -> i < g.base /\ ∃ t fr, g.w0.heap[i]? = some (.cells cs t fr)
theorem fJ.mono {C : cr} {g g' : Gh} (h : fJ C g) (hl : Gh.Le g g') : fJ C g' := ⟨fun i => (h.1 i).mono hl, fun i cs hi => by rw [hl.base, hl.w0]; exact h.2 i cs hi⟩
structure Env where
 get : Nat -> AV
def Env.put (ρ : Env) (d : Nat) (v : AV) : Env := ⟨fun t => if t = d then v else ρ.get t⟩
def Env.dT (ρ : Env) : Option Nat -> AV -> Env
 | some d, v => ρ.put d v
 | none, _ => ρ
def Env.ev (C : cr) (ρ : Env) : Operand -> AV
 | .tmp t => ρ.get t
 | .const v => AO v
 | .global g => C.u6 g
 | .func f => .func (.func f) [] []
def fj (g : Gh) (ρ : Env) (tmps : Array Value) : Prop := ∀ t, aw g (ρ.get t) (tmps.getD t undef)
theorem fj.mono {g g' : Gh} (h : Gh.Le g g') {ρ : Env} {tmps : Array Value} (hr : fj g ρ tmps) : fj g' ρ tmps := fun t => (hr t).mono h
theorem fj.put {g : Gh} {ρ : Env} {tmps : Array Value} (hr : fj g ρ tmps) {d : Nat} {x : AV} {v : Value} (hd : d < tmps.size) (hx : aw g x v) : fj g (ρ.put d x) (tmps.setIfInBounds d v) := fun t => by
 simp only [Env.put]
 by_cases ht : t = d
 · subst ht
   rw [if_pos rfl]
   simpa [Array.getD, hd] using hx
 · rw [if_neg ht]
   have := hr t
   simp only [Array.getD_eq_getD_getElem?] at this ⊢
   rw [Array.getElem?_setIfInBounds_ne (Ne.symm ht)]
   exact this
theorem vE {g : Gh} {v : Value} {x : AV} (h : jx v = some x) : aw g x v /\ v.oneCell' = true := by
 unfold jx at h
 split at h <;> first
  | (cases h; simp [aw, Value.oneCell']; done)
  | cases h
theorem dI {g : Gh} : ∀ {vs : List Value} {l : List AV}, vs.mapM jx = some l -> aD g l vs /\ ∀ u ∈ vs, u.oneCell' = true
 | [], l, h => by
   simp at h; subst h; simp [aD]
 | v :: vs, l, h => by
   simp only [List.mapM_cons, bind, Option.bind_eq_some_iff, pure, gq] at h
   obtain ⟨x, hx, l', AY, rfl⟩ := h
   obtain ⟨h1, h2⟩ := vE (g := g) hx
   obtain ⟨h3, h4⟩ := dI (g := g) AY
   refine ⟨by simp only [aD]; exact ⟨v, vs, rfl, h1, h3⟩, fun u hu => ?_⟩
   simp only [eA] at hu
   rcases hu with rfl | hu
   · exact h2
   · exact h4 u hu
theorem Hu {g : Gh} (v : Value) : aw g ((jx v).getD .any) v := by
 cases h : jx v with
 | none => simp only [Option.getD_none, aw]
 | some x => exact (vE h).1
theorem zX {g : Gh} (v : Value) : aw g (AO v) v := by
 cases v with
 | agg cs =>
   simp only [AO]
   cases h : cs.toList.mapM jx with
   | none => simp only [MV, aw]
   | some l => simp only [MV, aw]; exact ⟨cs.toList, by simp, (dI (g := g) h).2, (dI h).1⟩
 | func fn f c =>
   simp only [AO]
   split
   · rename_i h
     simp only [bP, Array.isEmpty_iff] at h
     obtain ⟨rfl, rfl⟩ := h
     simp only [aw]; exact ⟨[], [], rfl, by simp [aD], by simp [aD]⟩
   · simp only [aw]
 | tuple vs =>
   simp only [AO]
   split
   · rename_i h
     simp only [Array.isEmpty_iff] at h
     subst h
     simp only [aw]; exact ⟨[], rfl, by simp [aD]⟩
   · simp only [aw]
 | _ => simp only [AO]; exact Hu _
theorem p9 {C : cr} {g : Gh} (hG : fJ C g) {ρ : Env} {a : Act} (hr : fj g ρ a.tmps) (x : Operand) : aw g (ρ.ev C x) (a.eval x) := by
 cases x with
 | tmp t => exact hr t
 | const v => exact zX v
 | global i => exact hG.1 i
 | func f => simp only [Env.ev, Act.eval, aw]; exact ⟨[], [], rfl, by simp [aD], by simp [aD]⟩
inductive NV where
 | box
 | tok (n : Nat) (l : List AV)
 | ms (n gy : Nat) (e : TypeId)
 | mp
 | it
def NV.at (b : Nat) : NV -> AV
 | .box => .box b 0
 | .tok n l => .vec n (.own b) l
 | .ms n gy e => .ms b 0 n gy e
 | .mp => .mp b
 | .it => .it b
inductive av where
 | val (v : AV)
 | jD (v : AV) (b : Nat) (x : Live)
 | new (k : NV) (del : Option Nat) (x : Live)
 | ji (b : Nat) (l : List (AV × Live))
 | enter (f : FuncId) (args : List AV)
 | yield (l : Nat) (args : List AV)
 | panic (v : AV)
 | cond (p : Prop) [d : Decidable p] (r : av)
 | bad
abbrev av.c7 (l : List AV) : av := .new .box none (.box l)
abbrev av.kI (n : Nat) (l : List AV) (del : Option Nat) (t : Tok) : av := .new (.tok n l) del (.tok t)
abbrev av.lT (n gy : Nat) (e : TypeId) (del : Option Nat) (l : List AV) : av := .new (.ms n gy e) del (.box l)
abbrev av.BZ : av := .new .mp none (.mp [] [])
def St.pc (U : St) : Option Nat -> St
 | some b => U.del b
 | none => U
def av.Fits (C : cr) (g : Gh) (U : St) : av -> Result Next -> Prop
 | .val v, res => ∃ u w' g', (res = .ok (.value u) w' \/ (res = .ok .skip w' /\ u = undef)) /\ Gh.Le g g' /\ aZ g' U w' /\ aw g' v u
 | .jD v b x, res => ∃ u w' g', (res = .ok (.value u) w' \/ (res = .ok .skip w' /\ u = undef)) /\ Gh.Le g g' /\ aZ g' (U.set b x) w' /\ aw g' v u
 | .new k del x, res => ∃ u w' g' b, res = .ok (.value u) w' /\ (U.pc del).cN b /\ Gh.Le g g' /\ aZ g' ((U.pc del).new b x) w' /\ aw g' (k.at b) u
 | .ji b l, res => ∃ u w' g' v x, res = .ok (.value u) w' /\ (v, x) ∈ l /\ Gh.Le g g' /\ aZ g' (U.set b x) w' /\ aw g' v u
 | .enter f args, res => ∃ vs w', res = .ok (.enter f (List.toArray vs)) w' /\ aZ g U w' /\ aD g args vs
 | .yield o args, res => ∃ vs x w w', g.place o = some x /\ res = (Instr.yield x.aG (List.toArray vs)).run C.P w /\ w' = w /\ aZ g U w /\ aD g args vs
 | .panic v, res => ∃ u w', res = .halt (.panic u) w' /\ aZ g U w' /\ aw g v u
 | @av.cond p _ r, res => p -> r.Fits C g U res
 | .bad, _ => True
theorem aS {C : cr} {g : Gh} {U : St} {w : World} {v : AV} {u : Value} (h : aZ g U w) (hr : aw g v u) : av.Fits C g U (.val v) (.ok (.value u) w) :=
 ⟨u, w, g, .inl rfl, Gh.Le.refl g, h, hr⟩
def uu (n : Int) : Prop := -9223372036854775808 <= n /\ n <= 9223372036854775807
instance (n : Int) : Decidable (uu n) := inferInstanceAs (Decidable (_ /\ _))
theorem uo {n : Int} (h : uu n) : IntKind.i64.wrap n = n := by
 obtain ⟨h1, h2⟩ := h
 have e : IntKind.i64.wrap n = if n % 18446744073709551616 >= 9223372036854775808 then n % 18446744073709551616 - 18446744073709551616 else n % 18446744073709551616 := by
  simp [IntKind.wrap, IntKind.bits, IntKind.signed]
 rw [e]
 split <;> omega
def sL (P : Program) (t : TypeId) : Bool := match P.underlying t with | some .bool => true | _ => false
def iy (P : Program) (t : TypeId) : Bool := match P.underlying t with | some (.interface _) => true | _ => false
def jQ (P : Program) (t : TypeId) : Bool := match P.underlying t with | some (.pointer _) => true | _ => false
def mZ (P : Program) (t : TypeId) : Bool := match P.underlying t with | some (.slice _) => true | _ => false
def gb (k : IntKind) (n : Int) : av :=
 match k with
 | .i64 => .cond (uu n) (.val (.int .i64 n))
 | k => .val (.int k (k.wrap n))
inductive FK where
 | i
 | s
 | b
def l9 : List FK -> List AV -> List AV -> Option Bool
 | [], [], [] => some true
 | .i :: ks, .int k a :: xs, .int k' b :: ys => if k = k' then (l9 ks xs ys).map fun r => (a == b) && r else none
 | .s :: ks, .str a :: xs, .str b :: ys => (l9 ks xs ys).map fun r => (a == b) && r
 | .b :: ks, .bool a :: xs, .bool b :: ys => (l9 ks xs ys).map fun r => (a == b) && r
 | _, _, _ => none
def Ia (P : Program) (f : Field) (i : Nat) : Option FK :=
 if f.offset = i /\ f.name ≠ "_" then
  match P.underlying f.type with
  | some .bool => some .b
  | some (.int _) => some .i
  | some .string => some .s
  | _ => none
 else none
def sv (P : Program) : List Field -> Nat -> Option (List FK)
 | [], _ => some []
 | f :: fs, i => match Ia P f i, sv P fs (i + 1) with
   | some k, some ks => some (k :: ks)
   | _, _ => none
def GA (P : Program) (t : TypeId) : Option (List FK) :=
 match P.underlying t with
 | some (.struct fields) => if P.stoodInHeld t = false /\ P.eqGuardType P.depth t = false then sv P fields.toList 0 else none
 | _ => none
def Fi (P : Program) (t : TypeId) (a b : List AV) : Option Bool :=
 match GA P t with
 | some ks => l9 ks a b
 | none => none
def sh (f : Bool -> AV) : Option Bool -> av
 | some r => .val (f r)
 | none => .bad
def Gk (P : Program) (op : BinOp) (t : TypeId) (x y : AV) : av :=
 match op, x, y with
 | .add, .int k a, .int k' b => if k = k' then gb k (a + b) else .bad
 | .sub, .int k a, .int k' b => if k = k' then gb k (a - b) else .bad
 | .mul, .int k a, .int k' b => if k = k' then gb k (a * b) else .bad
 | .quo, .int k a, .int k' b => if k = k' then .cond (b ≠ 0) (gb k (a.tdiv b)) else .bad
 | .rem, .int k a, .int k' b => if k = k' then .cond (b ≠ 0) (.val (.int k (a.tmod b))) else .bad
 | .and, .int k a, .int k' b => if k = k' then .val (.int k (k.wrap (BitVec.ofInt k.bits a &&& BitVec.ofInt k.bits b).toNat)) else .bad
 | .or, .int k a, .int k' b => if k = k' then .val (.int k (k.wrap (BitVec.ofInt k.bits a ||| BitVec.ofInt k.bits b).toNat)) else .bad
 | .eql, .int k a, .int k' b => if k = k' then .val (.bool (a == b)) else .bad
 | .neq, .int k a, .int k' b => if k = k' then .val (.bool (a != b)) else .bad
 | .lss, .int k a, .int k' b => if k = k' then .val (.bool (decide (a < b))) else .bad
 | .leq, .int k a, .int k' b => if k = k' then .val (.bool (decide (a <= b))) else .bad
 | .gtr, .int k a, .int k' b => if k = k' then .val (.bool (decide (a > b))) else .bad
 | .geq, .int k a, .int k' b => if k = k' then .val (.bool (decide (a >= b))) else .bad
 | .eql, .str a, .str b => .val (.bool (a == b))
 | .neq, .str a, .str b => .val (.bool (a != b))
 | .add, .str a, .str b => .cond (a.length + b.length <= 4294967296) (.val (.str (a ++ b)))
 | .eql, .bool a, .bool b => if sL P t = true then .val (.bool (a == b)) else .bad
 | .neq, .bool a, .bool b => if sL P t = true then .val (.bool (a != b)) else .bad
 | .eql, .agg a, .agg b => sh .bool (Fi P t a b)
 | .neq, .agg a, .agg b => sh (fun r => .bool (!r)) (Fi P t a b)
 | .eql, .iface _ _, .cI => if iy P t = true then .val (.bool false) else .bad
 | .neq, .iface _ _, .cI => if iy P t = true then .val (.bool true) else .bad
 | .eql, .a7, .a7 => if jQ P t = true then .val (.bool true) else .bad
 | .eql, .box _ _, .a7 => if jQ P t = true then .val (.bool false) else .bad
 | .neq, .a7, .a7 => if jQ P t = true then .val (.bool false) else .bad
 | .neq, .box _ _, .a7 => if jQ P t = true then .val (.bool true) else .bad
 | .eql, .cj _, .a7 => if jQ P t = true then .val (.bool false) else .bad
 | .neq, .cj _, .a7 => if jQ P t = true then .val (.bool true) else .bad
 | .eql, .ax, .ax => if mZ P t = true then .val (.bool true) else .bad
 | .eql, .vec _ _ _, .ax => if mZ P t = true then .val (.bool false) else .bad
 | .eql, .ms _ _ _ _ _, .ax => if mZ P t = true then .val (.bool false) else .bad
 | _, _, _ => .bad
def isLit : Operand -> Bool
 | .const _ => true
 | _ => false
def Cp (P : Program) (op : BinOp) (t : TypeId) (lit : Bool) (x y : AV) : av :=
 match op, x, y with
 | .eql, .cI, .cI => if iy P t = true /\ lit = true then .val (.bool true) else .bad
 | .neq, .cI, .cI => if iy P t = true /\ lit = true then .val (.bool false) else .bad
 | op, x, y => Gk P op t x y
end Go.Rip
namespace Go.Rip
open Go.RowKit
def AV.scalar : AV -> Bool
 | .agg _ | .aO _ | .any => false
 | _ => true
def aA : AV -> List AV
 | .agg l => l
 | v => [v]
theorem At {g : Gh} {x : AV} {v : Value} (h : aw g x v) (hs : x.scalar = true) : v.oneCell' = true := by
 cases x <;> simp only [AV.scalar, bm] at hs <;> simp only [aw] at h
 all_goals first
  | (subst h; rfl)
  | (obtain ⟨_, _, rfl⟩ := h; rfl)
  | (obtain ⟨_, _, _, rfl, _⟩ := h; rfl)
  | (obtain ⟨_, _, _, _, rfl, _⟩ := h; rfl)
  | (obtain ⟨_, _, _, rfl, _⟩ := h; rfl)
  | (obtain ⟨_, _, rfl, _⟩ := h; rfl)
  | (obtain ⟨_, rfl, _⟩ := h; rfl)
  | (obtain ⟨_, _, _, _, rfl, _⟩ := h; rfl)
def AV.cS : AV -> Bool
 | .aO _ | .any => false
 | _ => true
theorem uV {g : Gh} {x : AV} {v : Value} (h : aw g x v) (hs : x.cS = true) : aD g (aA x) v.cells.toList /\ ∀ u ∈ v.cells.toList, u.oneCell' = true := by
 by_cases ha : ∃ l, x = .agg l
 · obtain ⟨l, rfl⟩ := ha
   simp only [aw] at h
   obtain ⟨vs, rfl, h1, h2⟩ := h
   exact ⟨by simpa [aA, Value.cells] using h2, by simpa [Value.cells] using h1⟩
 · have PW : x.scalar = true := by cases x <;> simp_all [AV.cS, AV.scalar]
   have h1 := At h PW
   have hc : aA x = [x] := by cases x <;> simp_all [aA]
   have hv : v.cells = #[v] := by cases v <;> simp_all [Value.cells, Value.oneCell']
   rw [hc, hv]
   exact ⟨by simp only [aD]; exact ⟨v, [], rfl, h, rfl⟩, by simpa using h1⟩
def jK (U : St) : AV -> Option (List AV)
 | .box b off => (U.box b).map (·.drop off)
 | .cj l => some l
 | _ => none
theorem oO {g : Gh} {U : St} {w : World} (h : aZ g U w) {p : AV} {v : Value} {l : List AV} (hp : aw g p v) (hl : jK U p = some l) :
 ∃ a vs, v = .pointer (some a) /\ a.spot = none /\ aD g l vs /\ ∀ j u, vs[j]? = some u -> w.cell? (a.add j) = some u /\ u.oneCell' = true := by
 have ix : ∀ aG off j, (⟨aG, off, none⟩ : Addr).add j = ⟨aG, off + j, none⟩ := fun aG off j => by unfold Addr.add; split <;> simp_all
 cases p <;> simp only [jK, reduceCtorEq] at hl
 · rename_i b off
   cases hb : U.box b with
   | none => simp [hb] at hl
   | some l0 =>
     simp [hb] at hl
     subst hl
     simp only [aw] at hp
     obtain ⟨x, hx, rfl⟩ := hp
     obtain ⟨x', cur, vs, rest, k1, k2, k3, k4, k5, k6, k7, k8⟩ := h.box b l0 hb
     rw [hx] at k1; cases k1
     refine ⟨⟨x.aG, off, none⟩, vs.drop off, rfl, rfl, k6.drop off, fun j u hu => ?_⟩
     rw [ix, cell_of_row _ _ _ cur x.e (0, 0) k3]
     rw [List.getElem?_drop] at hu
     have aJ : off + j < vs.length := by
      rcases eG (off + j) vs.length with h | h
      · exact h
      · simp [oD h] at hu
     have : cur[off + j]? = some u := by rw [<- iH, k5, tW aJ]; exact hu
     exact ⟨this, k7 u (fB (by rw [iH]; exact this))⟩
 · cases hl
   simp only [aw] at hp
   obtain ⟨aG, off, vs, rfl, hi, hr⟩ := hp
   exact ⟨⟨aG, off, none⟩, vs, rfl, rfl, hr, fun j u hu => by rw [ix]; exact h.bO _ _ _ (hi j u hu)⟩
def fT : List AV -> av
 | x :: _ => .val x
 | [] => .bad
def rh (P : Program) (t : TypeId) (p : AV) (U : St) : av :=
 match kY P t, jK U p with
 | some (true, sz), some l => .cond (sz <= l.length) (.val (.agg (l.take sz)))
 | some (false, _), some l => fT l
 | _, _ => .bad
theorem lN {P : Program} {t : TypeId} {b : Bool} {sz : Nat} (h : kY P t = some (b, sz)) :
 ∃ i d, P.info? t = some i /\ P.underlying t = some d /\ zO d = b /\ i.size = sz := by
 unfold kY at h
 split at h
 · rename_i i d hi hd
   simp only [gq, jz] at h
   exact ⟨i, d, hi, hd, h.1, h.2⟩
 · cases h
theorem jl {P : Program} {t : TypeId} {d : TypeDesc} (h : P.underlying t = some d) (w : World) : (isAgg t).run P w = .ok (zO d) w := by
 simp only [isAgg, bI, run_underlying h, bY]
 cases d <;> rfl
theorem dJ {P : Program} {t : TypeId} {i : TypeInfo} (h : P.info? t = some i) (w : World) : (sizeOf t).run P w = .ok i.size w := by
 simp [sizeOf, typeInfo, h]
section
variable {C : cr} {g : Gh} {U : St} {w : World}
theorem G9 (h : aZ g U w) {t : TypeId} {p : AV} {v : Value} (hp : aw g p v) : av.Fits C g U (rh C.P t p U) ((do let x <- Instr.loadAt t v; pure (Next.value x) : Sem Next).run C.P w) := by
 unfold rh
 split
 · rename_i b sz l hv hl
   obtain ⟨i, d, hi, hd, hb, dE⟩ := lN hv
   obtain ⟨a, vs, rfl, ha, hr, hc⟩ := oO h hp hl
   intro hle
   have hlen := hr.length
   have fy : (loadCells a (vs.take sz).length).run C.P w = .ok (vs.take sz).toArray w :=
    run_loadCells_list (P := C.P) w a (vs.take sz) fun j u hu => by
     rw [List.getElem?_take] at hu
     split at hu
     · exact (hc j u hu).1
     · cases hu
   have qj : (vs.take sz).length = sz := by simp; omega
   rw [qj] at fy
   simp only [Instr.loadAt, Instr.sureAddr, loadVar, bI, ca, bY, jl hd, hb, if_true, dJ hi, dE, fy, ef]
   have Ii : ∀ u ∈ vs.take sz, u.oneCell' = true := fun u hu => by
    obtain ⟨j, hj⟩ := List.getElem?_of_mem hu
    rw [List.getElem?_take] at hj
    split at hj
    · exact (hc j u hj).2
    · cases hj
   exact aS h (by simp only [aw]; exact ⟨_, rfl, Ii, hr.take sz⟩)
 · rename_i b sz l hv hl
   obtain ⟨i, d, hi, hd, hb, dE⟩ := lN hv
   obtain ⟨a, vs, rfl, ha, hr, hc⟩ := oO h hp hl
   cases l with
   | nil => trivial
   | cons x xs =>
     simp only [aD] at hr
     obtain ⟨u, us, rfl, h1, h2⟩ := hr
     have := (hc 0 u rfl).1
     have h0 : a.add 0 = a := by simp [Addr.add]
     rw [h0] at this
     simp only [Instr.loadAt, Instr.sureAddr, loadVar, bI, ca, bY, jl hd, hb, bm, if_false, run_load, this, ef]
     exact aS h h1
 · trivial
def aH (l : List AV) (off : Nat) (cs : List AV) : List AV := l.take off ++ cs ++ l.drop (off + cs.length)
def DY (P : Program) (t : TypeId) (p v : AV) (U : St) : av :=
 match kY P t, p with
 | some (_, sz), .box b off => match U.box b with
   | some l => .cond (v.cS = true /\ (aA v).length = sz /\ off + sz <= l.length) (.jD (.aO []) b (.box (aH l off (aA v))))
   | none => .bad
 | _, _ => .bad
theorem sS (h : aZ g U w) {b off : Nat} {l : List AV} {x : Place} (hb : U.box b = some l) (hx : g.box b = some x) {cs : List AV} {us : List Value} (hr : aD g cs us) (h1 : ∀ u ∈ us, u.oneCell' = true)
 (mh : off + cs.length <= l.length) : ∃ w', (storeCells ⟨x.aG, off, none⟩ us).run C.P w = .ok () w' /\ aZ g (U.bW b (aH l off cs)) w' := by
 obtain ⟨x', cur, vs, rest, k1, k2, k3, k4, k5, k6, k7, k8⟩ := h.box b l hb
 rw [hx] at k1; cases k1
 have IA := hr.length
 have qj := k6.length
 have dE : cur.size = vs.length + rest.length := by rw [<- ph, k5, fU]
 have fy := run_storeCells_at C.P x.aG off x.e us 0 cur w k3 (by omega) h1
 simp only [Nat.add_zero] at fy
 refine ⟨_, fy, ?_⟩
 have e : cur.toList.take off ++ us ++ cur.toList.drop (off + us.length) = (vs.take off ++ us ++ vs.drop (off + us.length)) ++ rest := by
  rw [k5, List.take_append_of_le_length (by omega), List.drop_append_of_le_length (by omega)]
  simp
 refine h.setRow hb hx _ (vs.take off ++ us ++ vs.drop (off + us.length)) rest ?_ (by simpa using e) ?_ ?_
 · rw [<- ph]
   have := congrArg List.length e
   simp only [fU, List.length_take, List.length_drop] at this
   simp only [fU, List.length_take, List.length_drop, ph] at this ⊢
   omega
 · unfold aH
   rw [IA]
   exact ((k6.take off).append hr).append (k6.drop _)
 · intro u hu
   simp only [fH] at hu
   rcases hu with (hu | hu) | hu
   · exact k7 u (List.mem_of_mem_take hu)
   · exact h1 u hu
   · exact k7 u (List.mem_of_mem_drop hu)
theorem E6 (h : aZ g U w) {t : TypeId} {p x : AV} {v u : Value} (hp : aw g p v) (hx : aw g x u) : av.Fits C g U (DY C.P t p x U) ((do Instr.storeAt t v u; pure Next.skip : Sem Next).run C.P w) := by
 unfold DY
 split
 · rename_i bb sz b off hv
   split
   · rename_i l hb
     rintro ⟨h1, h2, h3⟩
     obtain ⟨i, d, hi, hd, _, dE⟩ := lN hv
     obtain ⟨wY, wZ⟩ := uV hx h1
     simp only [aw] at hp
     obtain ⟨y, hy, rfl⟩ := hp
     obtain ⟨w', fy, hs⟩ := sS (C := C) h hb hy wY wZ (by rw [h2]; exact h3)
     have hlen : u.cells.size = sz := by rw [<- ph, wY.length]; exact h2
     simp only [Instr.storeAt, Instr.sureAddr, storeVar, bI, ca, bY, dJ hi, dE, hlen, ne_eq, not_true_eq_false, if_false, ef, fy]
     exact ⟨undef, w', g, .inr ⟨rfl, rfl⟩, Gh.Le.refl g, hs, by simp only [aw]; exact ⟨[], rfl, by simp [aD]⟩⟩
   · trivial
 · trivial
def Ck (t : TypeId) : List AV -> av
 | [.a7, .ax] => .new .box none (.xy t [.a7, .ax])
 | l => .c7 l
def Cj (P : Program) (t : TypeId) : av :=
 match mV P t with
 | some l => Ck t l
 | none => .bad
theorem ky {P : Program} {t : TypeId} {l : List AV} (hz : mV P t = some l) : ∃ i z, P.info? t = some i /\ i.zero = some z /\ z.cells.toList.mapM jx = some l := by
 unfold mV at hz
 cases hi : P.info? t with
 | none => simp [hi] at hz
 | some i =>
   cases qo : i.zero with
   | none => simp [hi, qo] at hz
   | some z => simp [hi, qo] at hz; exact ⟨i, z, rfl, qo, hz⟩
theorem fg {P : Program} {t : TypeId} {i : TypeInfo} {z : Value} (hi : P.info? t = some i) (hz : i.zero = some z) (w : World) : (zeroValue t).run P w = .ok z w := by
 simp [zeroValue, typeInfo, hi, hz]
theorem xo (h : aZ g U w) (e : TypeId) {l : List AV} {cur : Array Value} (hl : aD g l cur.toList) (h1 : ∀ u ∈ cur.toList, u.oneCell' = true) :
 av.Fits C g U (.c7 l) (.ok (.value (.pointer (some ⟨w.heap.size, 0, none⟩))) (w.alloc (.cells cur e))) := by
 obtain ⟨b, g', hb, hle, hx, hs⟩ := h.c7 e cur cur.toList [] l (by simp) hl h1
 exact ⟨_, _, g', b, rfl, hb, hle, hs, by simp only [NV.at, aw]; exact ⟨_, hx, rfl⟩⟩
theorem Ei (h : aZ g U w) {t : TypeId} : av.Fits C g U (Cj C.P t) ((do let x <- Instr.alloc t true (.tuple #[]); pure (Next.value x) : Sem Next).run C.P w) := by
 unfold Cj
 split
 · rename_i l hz
   obtain ⟨i, z, hi, qo, hm⟩ := ky hz
   obtain ⟨h1, h2⟩ := dI (g := g) hm
   simp only [Instr.alloc, newVar, newRow, bI, ca, bY, fg hi qo, run_newObj]
   unfold Ck
   split
   · have hlen := h1.length
     obtain ⟨b, g', hb, hle, hx, hs⟩ := h.qv (.cells z.cells t) t z.cells.size (.xy t [.a7, .ax]) fun g' hle hi hm => ⟨rfl, by simpa using hlen, z.cells, z.cells.toList, [], heap_alloc_new w _, rfl, by simp, h1.mono hle, h2, hi⟩
     exact ⟨_, _, g', b, rfl, hb, hle, hs, by simp only [NV.at, aw]; exact ⟨_, hx, rfl⟩⟩
   · exact xo h t h1 h2
 · trivial
def dZ (v : AV) : av := .cond (v.cS = true) (.c7 (aA v))
theorem HS (h : aZ g U w) {t : TypeId} {x : AV} {u : Value} (hx : aw g x u) : av.Fits C g U (dZ x) ((do let y <- Instr.box t u; pure (Next.value y) : Sem Next).run C.P w) := by
 intro hl
 obtain ⟨h1, h2⟩ := uV hx hl
 simp only [Instr.box, newVar, newRow, bI, ca, bY, run_newObj]
 exact xo h t h1 h2
def bz (x : AV) : av :=
 match x with
 | .box _ _ | .cj _ | .func (.func _) _ _ => .val x
 | _ => .bad
def tl (P : Program) (s : TypeId) (p : AV) (f : Nat) : av :=
 match u3 P s f, p with
 | some o, .box b off => .val (.box b (off + o))
 | some o, .cj l => .val (.cj (l.drop o))
 | _, _ => .bad
theorem Ew {P : Program} {s : TypeId} {f o : Nat} (h : u3 P s f = some o) : ∃ fs x, P.underlying s = some (.struct fs) /\ fs[f]? = some x /\ P.cellsOf x.type ≠ 0 /\ x.offset = o := by
 unfold u3 at h
 split at h
 · rename_i fs hu
   split at h
   · rename_i x hx
     split at h
     · rename_i hc; cases h; exact ⟨fs, x, hu, hx, hc, rfl⟩
     · cases h
   · cases h
 · cases h
theorem tA {aG off n : Nat} {vs : List Value} (h : jf g aG off vs) : jf g aG (off + n) (vs.drop n) := fun i u hu => by
 rw [List.getElem?_drop] at hu
 have := h (n + i) u hu
 rwa [Nat.add_assoc]
theorem yG (h : aZ g U w) {s f : Nat} {p : AV} {v : Value} (hp : aw g p v) : av.Fits C g U (tl C.P s p f) ((do let x <- Instr.fieldAt s v f; pure (Next.value x) : Sem Next).run C.P w) := by
 have ix : ∀ aG off j, (⟨aG, off, none⟩ : Addr).add j = ⟨aG, off + j, none⟩ := fun aG off j => by unfold Addr.add; split <;> simp_all
 have key : ∀ (o : Nat) (aG off : Nat), u3 C.P s f = some o -> v = .pointer (some ⟨aG, off, none⟩) ->
  ((do let x <- Instr.fieldAt s v f; pure (Next.value x) : Sem Next).run C.P w) = .ok (.value (.pointer (some ⟨aG, off + o, none⟩))) w := fun o aG off ho hv => by
  obtain ⟨fs, x, hu, hx, hc, rfl⟩ := Ew ho
  subst hv
  obtain ⟨i, hi, hic⟩ : ∃ i, C.P.info? x.type = some i /\ i.size = C.P.cellsOf x.type := by
   cases hi : C.P.info? x.type with
   | none => simp [Program.cellsOf, hi] at hc
   | some i => exact ⟨i, rfl, by simp [Program.cellsOf, hi]⟩
  simp only [Instr.fieldAt, bI, ca, bY, run_underlying hu, hx, Instr.sureAddr, fieldPlace, dJ hi, hic, if_neg hc, ef, ix]
 unfold tl
 split
 · rename_i o b off ho
   simp only [aw] at hp
   obtain ⟨x, hx, hv⟩ := hp
   rw [key o x.aG off ho hv]
   exact aS h (by simp only [aw]; exact ⟨x, hx, rfl⟩)
 · rename_i o l ho
   simp only [aw] at hp
   obtain ⟨aG, off, vs, hv, hi, hr⟩ := hp
   rw [key o aG off ho hv]
   exact aS h (by simp only [aw]; exact ⟨aG, off + o, vs.drop o, rfl, tA hi, hr.drop o⟩)
 · trivial
theorem fY {P : Program} {t e : TypeId} {sz : Nat} (h : eg P t = some (e, sz)) :
 ∃ i z, P.underlying t = some (.slice e) /\ P.info? e = some i /\ i.zero = some z /\ z.cells.size = sz /\ i.size = sz /\ 0 < sz /\ i.bytes <= 32768 /\ (∀ u ∈ z.cells.toList, u.oneCell' = true) := by
 unfold eg at h
 split at h
 · rename_i e' hu
   split at h
   · rename_i i hi
     split at h
     · rename_i z hz
       split at h
       · rename_i hc
         simp only [gq, jz] at h
         obtain ⟨rfl, rfl⟩ := h
         refine ⟨i, z, hu, hi, hz, hc.1, rfl, hc.2.1, hc.2.2.1, fun u hu => ?_⟩
         have := hc.2.2.2
         rw [Array.all_eq_true_iff_forall_mem] at this
         exact this u (by simpa using hu)
       · cases h
     · cases h
   · cases h
 · cases h
def rG (P : Program) (t : TypeId) : Option (Nat × TypeId × Nat) :=
 match P.underlying t with
 | some (.array n e) => match P.info? e with
   | some i => some (n, e, i.size)
   | none => none
 | _ => none
theorem qP {P : Program} {t e : TypeId} {n sz : Nat} (h : rG P t = some (n, e, sz)) : ∃ i, P.underlying t = some (.array n e) /\ P.info? e = some i /\ i.size = sz := by
 unfold rG at h
 split at h
 · rename_i n' e' hu
   split at h
   · rename_i i hi
     simp only [gq, jz] at h
     obtain ⟨rfl, rfl, rfl⟩ := h
     exact ⟨i, hu, hi, rfl⟩
   · cases h
 · cases h
def HN (P : Program) (t : TypeId) (x i : AV) : av :=
 match rG P t, x, i with
 | some (n, _, sz), .cj l, .int _ j => .cond (0 <= j /\ j < n) (.val (.cj (l.drop (j.toNat * sz))))
 | some (n, _, sz), .box b off, .int _ j => .cond (0 <= j /\ j < n) (.val (.box b (off + j.toNat * sz)))
 | _, _, _ => .bad
def tB (P : Program) (t : TypeId) (x i : AV) : av :=
 match eg P t, x, i with
 | none, x, i => HN P t x i
 | some (_, sz), .vec n _ l, .int _ j => .cond (0 <= j /\ j < n) (.val (.cj (l.drop (j.toNat * sz))))
 | some (_, sz), .ms b off n gy _, .int _ j => .cond (0 <= j /\ j < n /\ gy = sz) (.val (.box b (off + j.toNat * sz)))
 | _, _, _ => .bad
theorem y6 (h : aZ g U w) {t : TypeId} {x y : AV} {v u : Value} (hx : aw g x v) (hy : aw g y u) : av.Fits C g U (tB C.P t x y) ((do let x <- Instr.indexAt t v u; pure (Next.value x) : Sem Next).run C.P w) := by
 have ix : ∀ aG off j, (⟨aG, off, none⟩ : Addr).add j = ⟨aG, off + j, none⟩ := fun aG off j => by unfold Addr.add; split <;> simp_all
 have key : ∀ (e : TypeId) (sz : Nat) (aG off n c : Nat) (k : IntKind) (j : Int), eg C.P t = some (e, sz) -> v = .slice (some ⟨aG, off, none⟩) n c -> u = .int k j -> 0 <= j -> j < n ->
  ((do let x <- Instr.indexAt t v u; pure (Next.value x) : Sem Next).run C.P w) = .ok (.value (.pointer (some ⟨aG, off + j.toNat * sz, none⟩))) w := fun e sz aG off n c k j ho hv hu h0 h1 => by
  obtain ⟨i, z, mb, hi, hz, _, dE, _⟩ := fY ho
  subst hv hu
  simp only [Instr.indexAt, asIntOf, bI, ca, bY, run_underlying mb, h0, h1, and_self, if_true, ef, dJ hi, dE, ix]
 unfold tB
 split
 · unfold HN
   split
   · rename_i n e sz l k j ha
     rintro ⟨h0, h1⟩
     obtain ⟨i, mb, hi, dE⟩ := qP ha
     simp only [aw] at hx hy
     obtain ⟨aG, off, vs, rfl, ik, hr⟩ := hx
     subst hy
     simp only [Instr.indexAt, asIntOf, bI, ca, bY, run_underlying mb, Instr.sureAddr, h0, h1, and_self, if_true, ef, dJ hi, dE, ix]
     exact aS h (by simp only [aw]; exact ⟨aG, _, _, rfl, tA ik, hr.drop _⟩)
   · rename_i n e sz b off k j ha
     rintro ⟨h0, h1⟩
     obtain ⟨i, mb, hi, dE⟩ := qP ha
     simp only [aw] at hx hy
     obtain ⟨x, hb, rfl⟩ := hx
     subst hy
     simp only [Instr.indexAt, asIntOf, bI, ca, bY, run_underlying mb, Instr.sureAddr, h0, h1, and_self, if_true, ef, dJ hi, dE, ix]
     exact aS h (by simp only [aw]; exact ⟨x, hb, rfl⟩)
   · trivial
 · rename_i e sz n cap l k j hs
   rintro ⟨h0, h1⟩
   simp only [aw] at hx hy
   obtain ⟨aG, off, c, vs, hv, _, _, _, hi, hr⟩ := hx
   rw [key e sz aG off n c k j hs hv hy h0 h1]
   exact aS h (by simp only [aw]; exact ⟨aG, _, _, rfl, tA hi, hr.drop _⟩)
 · rename_i e sz b off n gy e' k j hs
   rintro ⟨h0, h1, rfl⟩
   simp only [aw] at hx hy
   obtain ⟨x, c, hb, hv, _⟩ := hx
   rw [key e gy x.aG off n c k j hs hv hy h0 h1]
   exact aS h (by simp only [aw]; exact ⟨x, hb, rfl⟩)
 · trivial
def kG (P : Program) (t : TypeId) : Bool := match P.underlying t with | some .string => true | _ => false
def yZ (P : Program) (t : TypeId) (x i : AV) : av :=
 match x, i with
 | .str s, .int _ j => if kG P t = true then .cond (0 <= j /\ j < s.length) (.val (.int .u8 (s.getD j.toNat 0).toNat)) else .bad
 | .agg l, .int _ j => match rG P t with
   | some (n, e, sz) => match kY P e with
     | some (false, _) => .cond (0 <= j /\ j < n) (fT (l.drop (j.toNat * sz)))
     | some (true, k) => .cond (0 <= j /\ j < n /\ k = sz /\ j.toNat * sz + sz <= l.length) (.val (.agg ((l.drop (j.toNat * sz)).take sz)))
     | none => .bad
   | none => .bad
 | _, _ => .bad
theorem mF {P : Program} {t : TypeId} (h : kG P t = true) : P.underlying t = some .string := by
 unfold kG at h
 split at h
 · assumption
 · cases h
theorem EE (h : aZ g U w) {t : TypeId} {x y : AV} {v u : Value} (hx : aw g x v) (hy : aw g y u) : av.Fits C g U (yZ C.P t x y) ((do let x <- Instr.index t v u; pure (Next.value x) : Sem Next).run C.P w) := by
 unfold yZ
 split
 · rename_i s k j
   split
   · rename_i ht
     rintro ⟨h0, h1⟩
     simp only [aw] at hx hy
     subst hx hy
     have hj : j.toNat < s.length := by omega
     have e : (ByteArray.mk s.toArray)[j.toNat]? = some (s.getD j.toNat 0) := by
      have dE : (ByteArray.mk s.toArray).size = s.length := by simp [ByteArray.size]
      rw [getElem?_pos _ _ (by rw [dE]; exact hj)]
      simp [rW, iY hj]
      rfl
     simp only [Instr.index, asIntOf, bI, ca, bY, run_underlying (mF ht), h0, if_true, e]
     exact aS h (by simp only [aw])
   · trivial
 · rename_i l k j
   split
   · rename_i n e sz ha
     obtain ⟨i, mb, hi, dE⟩ := qP ha
     simp only [aw] at hx hy
     subst hy
     obtain ⟨vs, rfl, Ii, hr⟩ := hx
     split
     · rename_i sz' hv
       obtain ⟨i', d, ik, hd, hb, _⟩ := lN hv
       rintro ⟨h0, h1⟩
       cases hl : l.drop (j.toNat * sz) with
       | nil => trivial
       | cons z zs =>
         have hz : l[j.toNat * sz]? = some z := by
          have := congrArg (fun l => l[0]?) hl
          simpa using this
         obtain ⟨u, IJ, Vl⟩ := hr.get hz
         have e1 : vs.toArray[j.toNat * sz]? = some u := by simpa using IJ
         simp only [Instr.index, asIntOf, bI, ca, bY, run_underlying mb, h0, h1, and_self, if_true, ef, dJ hi, dE, part, jl hd, hb, bm, if_false, e1]
         exact aS h Vl
     · rename_i k' hv
       obtain ⟨i', d, ik, hd, hb, hk⟩ := lN hv
       rw [hi] at ik; cases ik
       rintro ⟨h0, h1, rfl, h2⟩
       simp only [Instr.index, asIntOf, bI, ca, bY, run_underlying mb, h0, h1, and_self, if_true, ef, dJ hi, dE, part, jl hd, hb]
       refine aS h ?_
       simp only [aw]
       refine ⟨(vs.drop (j.toNat * k')).take k', ?_, fun u hu => Ii u (List.mem_of_mem_drop (List.mem_of_mem_take hu)), (hr.drop _).take _⟩
       congr 1
       apply Array.ext'
       simp [List.extract_eq_take_drop]
     · trivial
   · trivial
 · trivial
end
end Go.Rip
namespace Go.Rip
open Go.RowKit
section
variable {C : cr} {g : Gh} {U : St} {w : World}
theorem n7 {P : Program} {d : Nat} : ∀ (fs : List Field) (i : Nat) (ks : List FK) (xs ys : List AV) (us vs : Array Value) (r : Bool), sv P fs i = some ks -> l9 ks xs ys = some r ->
 aD g xs (us.toList.drop i) -> aD g ys (vs.toList.drop i) -> (Op.eqFields (d + 1) us vs fs).run P w = .ok r w
 | [], i, ks, xs, ys, us, vs, r, hk, he, _, _ => by
   simp only [sv, gq] at hk
   subst hk
   cases xs <;> cases ys <;> simp only [l9, reduceCtorEq, gq] at he
   subst he
   simp [Op.eqFields]
 | f :: fs, i, ks, xs, ys, us, vs, r, hk, he, hx, hy => by
   simp only [sv] at hk
   split at hk
   · rename_i k ks' hf Iu
     simp only [gq] at hk
     subst hk
     unfold Ia at hf
     split at hf
     · rename_i hc
       obtain ⟨ho, hn⟩ := hc
       have PS : ∀ (us : Array Value) (u : Value), us[i]? = some u -> ∀ dd, P.underlying f.type = some dd -> zO dd = false -> (part f.type us f.offset).run P w = .ok u w := fun us u hu dd hd ha => by
        simp only [part, bI, jl hd, bY, ha, bm, if_false, ho, hu, ca, ef]
       have lR : ∀ {xs : List AV} {x : AV} {us : Array Value}, aD g (x :: xs) (us.toList.drop i) -> ∃ u, us[i]? = some u /\ aw g x u /\ aD g xs (us.toList.drop (i + 1)) := fun {xs x us} h => by
        simp only [aD] at h
        obtain ⟨u, rest, e, h1, h2⟩ := h
        refine ⟨u, ?_, h1, ?_⟩
        · have := congrArg (fun l => l[0]?) e
          simpa using this
        · have := congrArg (List.drop 1) e
          rw [List.drop_drop] at this
          rw [this]; simpa using h2
       have vi : ∀ (u v : Value) (q r' : Bool) (dd : TypeDesc), us[i]? = some u -> vs[i]? = some v -> P.underlying f.type = some dd -> zO dd = false -> (Op.equalIn (d + 1) f.type u v).run P w = .ok q w ->
        (Op.eqFields (d + 1) us vs fs).run P w = .ok r' w -> (Op.eqFields (d + 1) us vs (f :: fs)).run P w = .ok (q && r') w := fun u v q r' dd hu hv hd ha heq aas => by
        simp only [Op.eqFields, if_pos hn, bI, PS us u hu dd hd ha, PS vs v hv dd hd ha, bY, heq, ef, ca, aas]
        cases q <;> simp
       split at hf
       · rename_i hd
         cases hf
         cases xs with
         | nil => simp [l9] at he
         | cons x xs =>
           cases ys with
           | nil => cases x <;> simp [l9] at he
           | cons y ys =>
             cases x <;> cases y <;> simp only [l9, reduceCtorEq] at he
             cases hr : l9 ks' xs ys with
             | none => simp [hr] at he
             | some r' =>
               simp [hr] at he
               subst he
               obtain ⟨u, hu, Ba, gZ⟩ := lR hx
               obtain ⟨v, hv, Bb, IN⟩ := lR hy
               simp only [aw] at Ba Bb
               subst Ba Bb
               have := vi _ _ _ r' _ hu hv hd rfl (run_equalIn_bool' w d f.type _ _ hd) (n7 fs (i + 1) ks' xs ys us vs r' Iu hr gZ IN)
               rw [this]
       · rename_i kk hd
         cases hf
         cases xs with
         | nil => simp [l9] at he
         | cons x xs =>
           cases ys with
           | nil => cases x <;> simp [l9] at he
           | cons y ys =>
             cases x <;> cases y <;> simp only [l9, reduceCtorEq] at he
             split at he
             · rename_i e; subst e
               cases hr : l9 ks' xs ys with
               | none => simp [hr] at he
               | some r' =>
                 simp [hr] at he
                 subst he
                 obtain ⟨u, hu, Ba, gZ⟩ := lR hx
                 obtain ⟨v, hv, Bb, IN⟩ := lR hy
                 simp only [aw] at Ba Bb
                 subst Ba Bb
                 have := vi _ _ _ r' _ hu hv hd rfl (run_equalIn_int w d f.type _ _ _ _ hd) (n7 fs (i + 1) ks' xs ys us vs r' Iu hr gZ IN)
                 rw [this]
             · cases he
       · rename_i hd
         cases hf
         cases xs with
         | nil => simp [l9] at he
         | cons x xs =>
           cases ys with
           | nil => cases x <;> simp [l9] at he
           | cons y ys =>
             cases x <;> cases y <;> simp only [l9, reduceCtorEq] at he
             cases hr : l9 ks' xs ys with
             | none => simp [hr] at he
             | some r' =>
               simp [hr] at he
               subst he
               obtain ⟨u, hu, Ba, gZ⟩ := lR hx
               obtain ⟨v, hv, Bb, IN⟩ := lR hy
               simp only [aw] at Ba Bb
               subst Ba Bb
               have := vi _ _ _ r' _ hu hv hd rfl (run_equalIn_string w d f.type _ _ hd) (n7 fs (i + 1) ks' xs ys us vs r' Iu hr gZ IN)
               rw [this]
               simp [ByteArray.toList_eq]
       · cases hf
     · cases hf
   · cases hk
theorem zp {P : Program} {t : TypeId} {a b : List AV} {us vs : List Value} {r : Bool} (h : Fi P t a b = some r) (ha : aD g a us) (hb : aD g b vs) :
 (Op.equalIn 10000 t (.agg us.toArray) (.agg vs.toArray)).run P w = .ok r w /\ P.eqGuardType P.depth t = false := by
 unfold Fi at h
 split at h
 · rename_i ks gM
   unfold GA at gM
   split at gM
   · rename_i fs hu
     split at gM
     · rename_i hc
       have YZ : P.fieldsOf t = fs := by simp [Program.fieldsOf, hu]
       refine ⟨?_, hc.2⟩
       rw [run_equalIn_struct w 9999 t _ _ (by rw [YZ]; exact hu) hc.1, YZ]
       exact n7 (d := 9998) fs.toList 0 ks a b _ _ r gM h (by simpa using ha) (by simpa using hb)
     · cases gM
   · cases gM
 · cases h
theorem py {P : Program} (w : World) (d : Nat) (t : TypeId) (ms : Array (String × TypeId)) (h : P.underlying t = some (.interface ms)) (a : TypeId) (b : Value) : (Op.equalIn (d + 1) t (.iface a b) .nilIface).run P w = .ok false w := by
 simp [Op.equalIn, run_underlying h]
theorem gP {P : Program} (w : World) (d : Nat) (t e : TypeId) (h : P.underlying t = some (.pointer e)) (a : Option Addr) : (Op.equalIn (d + 1) t (.pointer a) (.pointer none)).run P w = .ok a.isNone w := by
 cases a <;> simp [Op.equalIn, run_underlying h]
theorem lF {P : Program} (w : World) (d : Nat) (t e : TypeId) (h : P.underlying t = some (.slice e)) (a : Option Addr) (n c : Nat) : (Op.equalIn (d + 1) t (.slice a n c) (.slice none 0 0)).run P w = .ok a.isNone w := by
 cases a <;> simp [Op.equalIn, run_underlying h]
theorem oa {P : Program} (w : World) (d : Nat) (t : TypeId) (ms : Array (String × TypeId)) (h : P.underlying t = some (.interface ms)) : (Op.equalIn (d + 1) t .nilIface .nilIface).run P w = .ok true w := by
 simp [Op.equalIn, run_underlying h]
theorem HP (h : aZ g U w) {op : BinOp} {t : TypeId} {x y : AV} {u v : Value} (X Y : Operand) (hx : aw g x u) (hy : aw g y v) :
 av.Fits C g U (Gk C.P op t x y) ((do let r <- (do eqGuard op t X Y u v; binOp op t u v : Sem Value); pure (Next.value r) : Sem Next).run C.P w) := by
 have hI : ∀ (k : IntKind) (n : Int), av.Fits C g U (gb k n) (.ok (.value (.int k (k.wrap n))) w) := fun k n => by
  unfold gb
  split
  · intro hi
    rw [uo hi]
    exact aS h (by simp only [aw])
  · exact aS h (by simp only [aw])
 unfold Gk
 split
 all_goals first
  | trivial
  | skip
 all_goals simp only [aw] at hx hy
 all_goals first
  | (subst hx hy
     split
     · rename_i e; subst e
       first
        | (simp only [eqGuard, binOp, ne_eq, not_true_eq_false, if_false, Op.intArith, Op.intCmp, Op.intBits, bI, ca, bY, Bool.not_eq_true', Bool.true_eq_false, bU, cZ, bm, if_true, ef]
           first
            | exact hI _ _
            | exact aS h (by simp only [aw]))
        | (intro hb
           simp only [eqGuard, binOp, ne_eq, not_true_eq_false, if_false, Op.intDiv, if_neg hb, bI, ca, bY, Bool.not_eq_true', Bool.true_eq_false, bU, cZ, bm, if_true, ef]
           first
            | exact hI _ _
            | exact aS h (by simp only [aw]))
     · trivial)
  | skip
 · subst hx hy
   simp only [eqGuard, binOp, Op.stringOp, bI, ca, bY, bU, bm, if_false, ef, ByteArray.toList_eq, List.toList_toArray]
   exact aS h (by simp only [aw])
 · subst hx hy
   simp only [eqGuard, binOp, Op.stringOp, bI, ca, bY, bU, bm, if_false, ef, ByteArray.toList_eq, List.toList_toArray]
   exact aS h (by simp only [aw]; rfl)
 · subst hx hy
   rename_i a b
   intro hle
   have h1 : ¬ (((ByteArray.mk a.toArray).size + (ByteArray.mk b.toArray).size : Nat) : Int) > IntKind.i64.max := by
    have e1 : (ByteArray.mk a.toArray).size = a.length := by simp [ByteArray.size]
    have e2 : (ByteArray.mk b.toArray).size = b.length := by simp [ByteArray.size]
    have e3 : IntKind.i64.max = 9223372036854775807 := by simp [IntKind.max, IntKind.signed, IntKind.bits]
    rw [e1, e2, e3]; omega
   have h2 : (ByteArray.mk a.toArray) ++ (ByteArray.mk b.toArray) = ByteArray.mk (a ++ b).toArray := by
    apply ByteArray.ext
    simp
   simp only [eqGuard, binOp, Op.stringOp, bI, ca, bY, if_neg h1, ef, bU, cZ, bm, if_true, if_false, h2]
   exact aS h (by simp only [aw])
 · subst hx hy
   split
   · rename_i ht
     have hu : C.P.underlying t = some .bool := by unfold sL at ht; split at ht <;> simp_all
     have hr := run_equalIn_bool' (P := C.P) w 9999 t
     simp only [eqGuard, binOp, Op.equal, Op.maxDepth, bI, ca, bY, hr _ _ hu, bU, bm, if_false, ef]
     exact aS h (by simp only [aw])
   · trivial
 · subst hx hy
   split
   · rename_i ht
     have hu : C.P.underlying t = some .bool := by unfold sL at ht; split at ht <;> simp_all
     have hr := run_equalIn_bool' (P := C.P) w 9999 t
     simp only [eqGuard, binOp, Op.equal, Op.maxDepth, bI, ca, bY, hr _ _ hu, bU, bm, if_false, ef]
     exact aS h (by simp only [aw]; rfl)
   · trivial
 · rename_i a b
   obtain ⟨us, rfl, _, ha⟩ := hx
   obtain ⟨vs, rfl, _, hb⟩ := hy
   cases he : Fi C.P t a b with
   | none => trivial
   | some r =>
     obtain ⟨h1, h2⟩ := zp (w := w) he ha hb
     simp only [sh, bI, run_eqGuard_agg w _ _ _ _ _ _ h2, bY, run_eql_struct, h1, ca]
     exact aS h (by simp only [aw])
 · rename_i a b
   obtain ⟨us, rfl, _, ha⟩ := hx
   obtain ⟨vs, rfl, _, hb⟩ := hy
   cases he : Fi C.P t a b with
   | none => trivial
   | some r =>
     obtain ⟨h1, h2⟩ := zp (w := w) he ha hb
     simp only [sh, bI, run_eqGuard_agg w _ _ _ _ _ _ h2, bY, run_neq_struct, h1, ca]
     exact aS h (by simp only [aw])
 · obtain ⟨u', rfl, _⟩ := hx
   subst hy
   split
   · rename_i ht
     obtain ⟨ms, hu⟩ : ∃ ms, C.P.underlying t = some (.interface ms) := by unfold iy at ht; split at ht <;> simp_all
     have hr := py (P := C.P) w 9999 t ms hu
     simp only [eqGuard, binOp, Op.equal, Op.maxDepth, hr, bI, ca, bY, bU, bm, if_false, ef]
     exact aS h (by simp only [aw])
   · trivial
 · obtain ⟨u', rfl, _⟩ := hx
   subst hy
   split
   · rename_i ht
     obtain ⟨ms, hu⟩ : ∃ ms, C.P.underlying t = some (.interface ms) := by unfold iy at ht; split at ht <;> simp_all
     have hr := py (P := C.P) w 9999 t ms hu
     simp only [eqGuard, binOp, Op.equal, Op.maxDepth, hr, bI, ca, bY, bU, cZ, bm, if_false, ef]
     exact aS h (by simp only [aw])
   · trivial
 · subst hx hy
   split
   · rename_i ht
     obtain ⟨ms, hu⟩ : ∃ ms, C.P.underlying t = some (.pointer ms) := by unfold jQ at ht; split at ht <;> simp_all
     have hr := gP (P := C.P) w 9999 t ms hu
     simp only [eqGuard, binOp, Op.equal, Op.maxDepth, hr, bI, ca, bY, Option.isNone_none, bU, cZ, bm, if_false, ef]
     exact aS h (by simp [aw])
   · trivial
 · obtain ⟨x, _, rfl⟩ := hx
   subst hy
   split
   · rename_i ht
     obtain ⟨ms, hu⟩ : ∃ ms, C.P.underlying t = some (.pointer ms) := by unfold jQ at ht; split at ht <;> simp_all
     have hr := gP (P := C.P) w 9999 t ms hu
     simp only [eqGuard, binOp, Op.equal, Op.maxDepth, hr, bI, ca, bY, Option.isNone_none, bU, cZ, bm, if_false, ef]
     exact aS h (by simp [aw])
   · trivial
 · subst hx hy
   split
   · rename_i ht
     obtain ⟨ms, hu⟩ : ∃ ms, C.P.underlying t = some (.pointer ms) := by unfold jQ at ht; split at ht <;> simp_all
     have hr := gP (P := C.P) w 9999 t ms hu
     simp only [eqGuard, binOp, Op.equal, Op.maxDepth, hr, bI, ca, bY, Option.isNone_none, bU, cZ, bm, if_false, ef]
     exact aS h (by simp [aw])
   · trivial
 · obtain ⟨x, _, rfl⟩ := hx
   subst hy
   split
   · rename_i ht
     obtain ⟨ms, hu⟩ : ∃ ms, C.P.underlying t = some (.pointer ms) := by unfold jQ at ht; split at ht <;> simp_all
     have hr := gP (P := C.P) w 9999 t ms hu
     simp only [eqGuard, binOp, Op.equal, Op.maxDepth, hr, bI, ca, bY, Option.isNone_none, bU, cZ, bm, if_false, ef]
     exact aS h (by simp [aw])
   · trivial
 · obtain ⟨_, _, _, rfl, _⟩ := hx
   subst hy
   split
   · rename_i ht
     obtain ⟨ms, hu⟩ : ∃ ms, C.P.underlying t = some (.pointer ms) := by unfold jQ at ht; split at ht <;> simp_all
     have hr := gP (P := C.P) w 9999 t ms hu
     simp only [eqGuard, binOp, Op.equal, Op.maxDepth, hr, bI, ca, bY, Option.isNone_none, bU, cZ, bm, if_false, ef]
     exact aS h (by simp [aw])
   · trivial
 · obtain ⟨_, _, _, rfl, _⟩ := hx
   subst hy
   split
   · rename_i ht
     obtain ⟨ms, hu⟩ : ∃ ms, C.P.underlying t = some (.pointer ms) := by unfold jQ at ht; split at ht <;> simp_all
     have hr := gP (P := C.P) w 9999 t ms hu
     simp only [eqGuard, binOp, Op.equal, Op.maxDepth, hr, bI, ca, bY, Option.isNone_none, bU, cZ, bm, if_false, ef]
     exact aS h (by simp [aw])
   · trivial
 · subst hx
   subst hy
   split
   · rename_i ht
     obtain ⟨ms, hu⟩ : ∃ ms, C.P.underlying t = some (.slice ms) := by unfold mZ at ht; split at ht <;> simp_all
     have hr := lF (P := C.P) w 9999 t ms hu
     simp only [eqGuard, binOp, Op.equal, Op.maxDepth, hr, bI, ca, bY, Option.isNone_none, Option.isNone_some, bU, cZ, bm, if_false, ef]
     exact aS h (by simp [aw])
   · trivial
 · obtain ⟨_, _, _, _, rfl, _⟩ := hx
   subst hy
   split
   · rename_i ht
     obtain ⟨ms, hu⟩ : ∃ ms, C.P.underlying t = some (.slice ms) := by unfold mZ at ht; split at ht <;> simp_all
     have hr := lF (P := C.P) w 9999 t ms hu
     simp only [eqGuard, binOp, Op.equal, Op.maxDepth, hr, bI, ca, bY, Option.isNone_none, Option.isNone_some, bU, cZ, bm, if_false, ef]
     exact aS h (by simp [aw])
   · trivial
 · obtain ⟨_, _, _, rfl, _⟩ := hx
   subst hy
   split
   · rename_i ht
     obtain ⟨ms, hu⟩ : ∃ ms, C.P.underlying t = some (.slice ms) := by unfold mZ at ht; split at ht <;> simp_all
     have hr := lF (P := C.P) w 9999 t ms hu
     simp only [eqGuard, binOp, Op.equal, Op.maxDepth, hr, bI, ca, bY, Option.isNone_none, Option.isNone_some, bU, cZ, bm, if_false, ef]
     exact aS h (by simp [aw])
   · trivial
theorem HQ (h : aZ g U w) {op : BinOp} {t : TypeId} {x y : AV} {u v : Value} (X Y : Operand) (hx : aw g x u) (hy : aw g y v) :
 av.Fits C g U (Cp C.P op t (isLit X || isLit Y) x y) ((do let r <- (do eqGuard op t X Y u v; binOp op t u v : Sem Value); pure (Next.value r) : Sem Next).run C.P w) := by
 have key : ∀ (op : BinOp), (op = .eql \/ op = .neq) -> iy C.P t = true -> (isLit X || isLit Y) = true -> (eqGuard op t X Y .nilIface .nilIface).run C.P w = .ok () w := fun op hop ht hl => by
  obtain ⟨ms, hu⟩ : ∃ ms, C.P.underlying t = some (.interface ms) := by unfold iy at ht; split at ht <;> simp_all
  rcases hop with rfl | rfl <;> cases X <;> cases Y <;> simp [isLit] at hl <;> simp [eqGuard]
 unfold Cp
 split
 · simp only [aw] at hx hy
   subst hx hy
   split
   · rename_i ht
     obtain ⟨ms, hu⟩ : ∃ ms, C.P.underlying t = some (.interface ms) := by have ht := ht.1; unfold iy at ht; split at ht <;> simp_all
     have hr := oa (P := C.P) w 9999 t ms hu
     simp only [bI, key _ (.inl rfl) ht.1 ht.2, binOp, Op.equal, Op.maxDepth, hr, ca, bY, bU, cZ, bm, if_false, ef]
     exact aS h (by simp [aw])
   · trivial
 · simp only [aw] at hx hy
   subst hx hy
   split
   · rename_i ht
     obtain ⟨ms, hu⟩ : ∃ ms, C.P.underlying t = some (.interface ms) := by have ht := ht.1; unfold iy at ht; split at ht <;> simp_all
     have hr := oa (P := C.P) w 9999 t ms hu
     simp only [bI, key _ (.inr rfl) ht.1 ht.2, binOp, Op.equal, Op.maxDepth, hr, ca, bY, bU, cZ, bm, if_false, ef]
     exact aS h (by simp [aw])
   · trivial
 · exact HP h X Y hx hy
end
end Go.Rip
namespace Go.Rip
open Go.RowKit
section
variable {C : cr} {g : Gh} {U : St} {w : World}
def Gi (P : Program) (t u : TypeId) : Option (TypeId × Nat) :=
 match P.underlying u with
 | some (.slice _) => eg P t
 | some .string => match eg P t with
   | some (e, 1) => some (e, 1)
   | _ => none
 | _ => none
def pn (U : St) : AV -> Option (Nat × List AV)
 | .vec m _ l => some (m, l)
 | .ax => some (0, [])
 | .ms b off m gy _ => match U.box b with
   | some l => some (m, (l.drop off).take (m * gy))
   | none => none
 | .str s => some (s.length, s.map fun b => .int .u8 b.toNat)
 | _ => none
def zQ (P : Program) (t u : TypeId) (mu : Bool) (s y : AV) (U : St) : av :=
 match Gi P t u, pn U y with
 | some (e, sz), some (m, l2) =>
   .cond (l2.length = m * sz) (match s with
   | .ax => if m = 0 then .val .ax else .cond (m <= 4294967296) (if mu then .lT m sz e none l2 else .kI m l2 none ⟨m, e, sz⟩)
   | .vec n .full l => if m = 0 then .val s else .cond (l.length = n * sz /\ n + m <= 4294967296) (.kI (n + m) (l ++ l2) none ⟨n + m, e, sz⟩)
   | .vec n (.own τ) l => .cond (U.tok τ = some ⟨n, e, sz⟩ /\ l.length = n * sz /\ n + m <= 4294967296) (.kI (n + m) (l ++ l2) (some τ) ⟨n + m, e, sz⟩)
   | .ms b off n gy e' => match U.box b with
     | some l => .cond (off = 0 /\ gy = sz /\ e' = e /\ n * sz <= l.length /\ n + m <= 4294967296) (.lT (n + m) sz e (some b) (l.take (n * sz) ++ l2))
     | none => .bad
   | _ => .bad)
 | _, _ => .bad
theorem HM {P : Program} {t u e : TypeId} {sz : Nat} (h : Gi P t u = some (e, sz)) : eg P t = some (e, sz) /\ ∃ d, P.underlying u = some d /\ ((∃ x, d = .slice x) \/ d = .string) := by
 unfold Gi at h
 split at h
 · rename_i x hx; exact ⟨h, _, hx, .inl ⟨x, rfl⟩⟩
 · rename_i hx
   split at h
   · rename_i e' he
     simp only [gq, jz] at h
     obtain ⟨rfl, rfl⟩ := h
     exact ⟨he, _, hx, .inr rfl⟩
   · cases h
 · cases h
theorem Mw (h : aZ g U w) {y : AV} {v : Value} (hy : aw g y v) {m : Nat} {l2 : List AV} (hs : pn U y = some (m, l2)) {sz : Nat} (hl : l2.length = m * sz) :
 (∀ W, (Builtin.lenOf v).run C.P W = .ok m W) /\ ∃ us : List Value, aD g l2 us /\ (∀ u ∈ us, u.oneCell' = true) /\ ∀ W : World, W.heap = w.heap -> (Builtin.firstCells sz m v).run C.P W = .ok us.toArray W := by
 have ix : ∀ aG off j, (⟨aG, off, none⟩ : Addr).add j = ⟨aG, off + j, none⟩ := fun aG off j => by unfold Addr.add; split <;> simp_all
 have mS : ∀ (W : World) a, W.heap = w.heap -> W.cell? a = w.cell? a := fun W a hW => by simp [World.cell?, hW]
 have read : ∀ (aG off c : Nat) (us : List Value), us.length = m * sz -> (∀ j u, us[j]? = some u -> w.cell? ⟨aG, off + j, none⟩ = some u) -> ∀ W : World, W.heap = w.heap ->
  (Builtin.firstCells sz m (.slice (some ⟨aG, off, none⟩) m c)).run C.P W = .ok us.toArray W := fun aG off c us hlen hc W hW => by
  exact run_firstCells_some W sz m ⟨aG, off, none⟩ m c us hlen (fun j u hu => by rw [ix, mS W _ hW]; exact hc j u hu)
 cases y <;> simp only [pn, reduceCtorEq, gq, jz] at hs
 · rename_i s
   obtain ⟨rfl, rfl⟩ := hs
   simp only [aw] at hy
   subst hy
   have dE : (ByteArray.mk s.toArray).size = s.length := by simp [ByteArray.size]
   refine ⟨fun W => by simp [Builtin.lenOf, dE], s.map (fun b => Value.int .u8 b.toNat), ?_, by simp [Value.oneCell'], fun W _ => ?_⟩
   · refine aD.zg (by simp) fun i x u hx hu => ?_
     simp only [ko, mv] at hx hu
     obtain ⟨b, hb, rfl⟩ := hx
     obtain ⟨b', dA, rfl⟩ := hu
     rw [hb] at dA; cases dA
     simp only [aw]
   · simp only [Builtin.firstCells, ca]
     congr 1
     apply Array.ext'
     simp
 · obtain ⟨rfl, rfl⟩ := hs
   simp only [aw] at hy
   subst hy
   exact ⟨fun W => by simp [Builtin.lenOf], [], by simp [aD], by simp, fun W _ => by simp [Builtin.firstCells]⟩
 · rename_i n cap l
   obtain ⟨rfl, rfl⟩ := hs
   simp only [aw] at hy
   obtain ⟨aG, off, c, vs, rfl, _, _, _, hi, hr⟩ := hy
   exact ⟨fun W => by simp [Builtin.lenOf], vs, hr, fun u hu => by
    obtain ⟨j, hj⟩ := List.getElem?_of_mem hu
    exact (h.bO _ _ _ (hi j u hj)).2, read aG off c vs (by rw [hr.length, hl]) fun j u hu => (h.bO _ _ _ (hi j u hu)).1⟩
 · rename_i b off n gy e'
   split at hs
   · rename_i l hb
     simp only [gq, jz] at hs
     obtain ⟨rfl, rfl⟩ := hs
     simp only [aw] at hy
     obtain ⟨x, c, hx, rfl, _, _, _, _⟩ := hy
     obtain ⟨a, vs, hv, ha, hr, hc⟩ := oO h (p := .box b off) (v := .pointer (some ⟨x.aG, off, none⟩)) (l := l.drop off) (by simp only [aw]; exact ⟨x, hx, rfl⟩) (by simp [jK, hb])
     cases hv
     refine ⟨fun W => by simp [Builtin.lenOf], vs.take (n * gy), hr.take _, fun u hu => ?_, read x.aG off c _ (by rw [(hr.take _).length, hl]) fun j u hu => ?_⟩
     · obtain ⟨j, hj⟩ := List.getElem?_of_mem hu
       rw [List.getElem?_take] at hj
       split at hj
       · exact (hc j u hj).2
       · cases hj
     · rw [List.getElem?_take] at hu
       split at hu
       · have := (hc j u hu).1; rwa [ix] at this
       · cases hu
   · cases hs
theorem lX {P : Program} {w : World} {t u ty e : TypeId} {i : TypeInfo} {d : TypeDesc} (ht : P.underlying t = some (.slice e)) (hu : P.underlying u = some d) (hd : (∃ x, d = .slice x) \/ d = .string) (hi : P.info? e = some i)
 {base : Option Addr} {n c m : Nat} {v : Value} {us : List Value} (hm : ∀ W, (Builtin.lenOf v).run P W = .ok m W) (hf : (Builtin.firstCells i.size m v).run P w = .ok us.toArray w) (mT : n + m <= c) :
 (Builtin.append_ #[t, u] ty #[.slice base n c, v]).run P w = match base with
   | some a => ((storeCells (a.add (n * i.size)) us).run P w).andThen fun _ w' => .ok (.slice base (n + m) c) w'
   | none => .ok (.slice base (n + m) c) w := by
 rcases hd with ⟨x, rfl⟩ | rfl <;> cases base <;>
  simp [Builtin.append_, run_underlying ht, run_underlying hu, sizeOf, typeInfo, hi, hm, mT, hf]
theorem As {P : Program} {w : World} {t u ty e : TypeId} {i : TypeInfo} {z : Value} {d : TypeDesc} (ht : P.underlying t = some (.slice e)) (hu : P.underlying u = some d) (hd : (∃ x, d = .slice x) \/ d = .string) (hi : P.info? e = some i) (hz : i.zero = some z) (yN : i.bytes <= 32768)
 {base : Option Addr} {n c m : Nat} {v : Value} {vF us : List Value} (hm : ∀ W, (Builtin.lenOf v).run P W = .ok m W) (hf : ∀ W : World, W.heap = w.heap -> (Builtin.firstCells i.size m v).run P W = .ok us.toArray W)
 (ho : ∀ W : World, W.heap = w.heap -> (Builtin.firstCells i.size n (.slice base n c)).run P W = .ok vF.toArray W) (abt : c < n + m) (kD : n + m <= 4294967296) :
 (Builtin.append_ #[t, u] ty #[.slice base n c, v]).run P w =
   .ok (.slice (some ⟨w.heap.size, 0, none⟩) (n + m) (grownCap w (n + m) c e))
    (w.drew.alloc (.cells (vF.toArray ++ us.toArray ++ Builtin.zeroCells z.cells (grownCap w (n + m) c e - (n + m))) e)) := by
 have mT : ¬ (n + m <= c) := by omega
 have Nx : ¬ (9223372036854775807 < ((n : Int) + (m : Int))) := by omega
 have ij : (n + m) * i.bytes <= 140737488355328 := Nat.le_trans (Nat.mul_le_mul kD yN) (by omega)
 have AT := growslice_fits (old := c) (need := n + m) (bytes := i.bytes) (by omega) ij
 have Nw : ¬ (281474976710656 < Builtin.nextslicecap (n + m) c * i.bytes) := by omega
 have hf' := hf w.drew rfl
 have PN := ho w.drew rfl
 rcases hd with ⟨x, rfl⟩ | rfl <;>
 · simp [Builtin.append_, run_underlying ht, run_underlying hu, sizeOf, typeInfo, zeroValue, hi, hz, hm, mT, Nx, Nw, Question.forced, hf', PN, newRow, grownCap]
   congr 2
   apply Array.ext'
   simp [qD]
theorem St.Fg (U : St) (d : Option Nat) : St.Le (U.pc d) U := by
 cases d with
 | none => exact St.Le.refl U
 | some b => exact St.p7 U b
theorem mB {w : World} (h : aZ g U w) {del : Option Nat} {e : TypeId} {sz n c : Nat} {l : List AV} {vs rest : List Value} (hr : aD g l vs) (h1 : ∀ u ∈ vs, u.oneCell' = true) (h2 : ∀ u ∈ rest, u.oneCell' = true)
 (hl : l.length = n * sz) (hc : vs.length + rest.length = c * sz) (hn : n <= c) (sB : c <= maxLen) :
 av.Fits C g U (.kI n l del ⟨n, e, sz⟩) (.ok (.value (.slice (some ⟨w.heap.size, 0, none⟩) n c)) (w.alloc (.cells (vs ++ rest).toArray e))) := by
 obtain ⟨τ, g', h3, hle, h4, h5, h6⟩ := (h.weaken (St.Fg U del)).kI e sz n c (vs ++ rest).toArray vs rest (by simp) (by
  intro u hu
  simp only [fH] at hu
  rcases hu with hu | hu
  · exact h1 u hu
  · exact h2 u hu) (by rw [hr.length, hl]) (by simp [hc]) hn sB
 refine ⟨_, _, g', τ, rfl, h3, hle, h6, ?_⟩
 simp only [NV.at, aw]
 exact ⟨w.heap.size, 0, c, vs, rfl, hn, sB, ⟨rfl, h4⟩, h5, hr.mono hle⟩
theorem nR {w : World} (h : aZ g U w) {del : Option Nat} {e : TypeId} {sz n c : Nat} {l : List AV} {vs rest : List Value} (hr : aD g l vs) (h1 : ∀ u ∈ vs, u.oneCell' = true) (h2 : ∀ u ∈ rest, u.oneCell' = true)
 (hc : vs.length + rest.length = c * sz) (hn : n <= c) (sB : c <= maxLen) :
 av.Fits C g U (.lT n sz e del l) (.ok (.value (.slice (some ⟨w.heap.size, 0, none⟩) n c)) (w.alloc (.cells (vs ++ rest).toArray e))) := by
 obtain ⟨b, g', h3, hle, h4, h6⟩ := (h.weaken (St.Fg U del)).c7 e (vs ++ rest).toArray vs rest l (by simp) hr (by
  intro u hu
  simp only [fH] at hu
  rcases hu with hu | hu
  · exact h1 u hu
  · exact h2 u hu)
 refine ⟨_, _, g', b, rfl, h3, hle, h6, ?_⟩
 simp only [NV.at, aw]
 exact ⟨_, c, h4, rfl, hn, sB, by simp [hc], rfl⟩
theorem jH {z : Array Value} (hz : ∀ u ∈ z.toList, u.oneCell' = true) (n : Nat) (hp : 0 < z.size) : ∀ u ∈ (Builtin.zeroCells z n).toList, u.oneCell' = true := by
 intro u hu
 simp only [Builtin.zeroCells, Array.toList_map, List.mem_map] at hu
 obtain ⟨i, _, rfl⟩ := hu
 have aJ : i % z.size < z.size := Nat.mod_lt _ hp
 rw [getElem!_pos z _ aJ]
 exact hz _ (by simp)
theorem Cl (h : aZ g U w) {t u ty : TypeId} {mu : Bool} {s y : AV} {v v2 : Value} (hs : aw g s v) (hy : aw g y v2) :
 av.Fits C g U (zQ C.P t u mu s y U) ((do let r <- Builtin.append_ #[t, u] ty #[v, v2]; pure (Next.value r) : Sem Next).run C.P w) := by
 have ix : ∀ aG off j, (⟨aG, off, none⟩ : Addr).add j = ⟨aG, off + j, none⟩ := fun aG off j => by unfold Addr.add; split <;> simp_all
 unfold zQ
 split
 · rename_i e sz m l2 hap GQ
   intro qj
   obtain ⟨nD, d, hu, hd⟩ := HM hap
   obtain ⟨i, z, ht, hi, hz, sG, rfl, mY, yN, Zz⟩ := fY nD
   obtain ⟨hm, us, qn, va, hf⟩ := Mw (C := C) h hy GQ qj
   have IK : us.length = m * i.size := by rw [qn.length, qj]
   have grow : ∀ (base : Option Addr) (n c : Nat) (vF : List Value), (∀ W : World, W.heap = w.heap -> (Builtin.firstCells i.size n (.slice base n c)).run C.P W = .ok vF.toArray W) -> vF.length = n * i.size -> c < n + m -> n + m <= 4294967296 ->
    ∃ cap rest, n + m <= cap /\ cap <= maxLen /\ (∀ u ∈ rest, u.oneCell' = true) /\ (vF ++ us).length + rest.length = cap * i.size /\
    (Builtin.append_ #[t, u] ty #[.slice base n c, v2]).run C.P w = .ok (.slice (some ⟨w.drew.heap.size, 0, none⟩) (n + m) cap) (w.drew.alloc (.cells ((vF ++ us) ++ rest).toArray e)) := fun base n c vF ho CZ aJ kD => by
    have gn := grownCap_ge w (n + m) c e
    have hle := grownCap_le_maxLen w (n + m) c e (by unfold maxLen; omega)
    refine ⟨grownCap w (n + m) c e, (Builtin.zeroCells z.cells (grownCap w (n + m) c e - (n + m))).toList, gn, hle, jH Zz _ (by omega), ?_, ?_⟩
    · rw [fU, CZ, IK, ph, size_zeroCells, sG, <- Nat.add_mul, <- Nat.add_mul]
      congr 1; omega
    · rw [As ht hu hd hi hz yN hm hf ho aJ kD]
      congr 3
      simp
   split
   · simp only [aw] at hs
     subst hs
     split
     · rename_i h0
       subst h0
       rw [bI, lX ht hu hd hi hm (hf w rfl) (by omega)]
       exact aS h (by simp only [aw])
     · rename_i h0
       intro kD
       obtain ⟨cap, rest, h1, h2, h3, h4, h5⟩ := grow none 0 0 [] (fun W _ => by simp [Builtin.firstCells]) (by simp) (by omega) (by omega)
       rw [bI, h5]
       have dL := h.grow (iw w)
       simp only [cq, jc] at h1 h4 h5 ⊢
       split
       · exact nR dL qn va h3 h4 h1 h2
       · exact mB dL qn va h3 qj h4 h1 h2
   · rename_i n l
     have qX := hs
     simp only [aw] at hs
     obtain ⟨aG, off, c, vs, rfl, AZ, sB, vd, kW, hr⟩ := hs
     simp only [nN] at vd
     subst vd
     split
     · rename_i h0
       subst h0
       rw [bI, lX ht hu hd hi hm (hf w rfl) (by omega)]
       have aay : us = [] := List.eq_nil_of_length_eq_zero (by simpa using IK)
       subst aay
       simp only [storeCells, ca, bY, Nat.add_zero]
       exact aS h qX
     · rename_i h0
       rintro ⟨hl, kD⟩
       have C9 : vs.length = c * i.size := by rw [hr.length, hl]
       have ho : ∀ W : World, W.heap = w.heap -> (Builtin.firstCells i.size c (.slice (some ⟨aG, off, none⟩) c c)).run C.P W = .ok vs.toArray W := fun W hW =>
        run_firstCells_some W i.size c ⟨aG, off, none⟩ c c vs C9 (fun j u hu => by
         rw [ix]
         have : W.cell? ⟨aG, off + j, none⟩ = w.cell? ⟨aG, off + j, none⟩ := by simp [World.cell?, hW]
         rw [this]; exact (h.bO _ _ _ (kW j u hu)).1)
       obtain ⟨cap, rest, h1, h2, h3, h4, h5⟩ := grow (some ⟨aG, off, none⟩) c c vs ho C9 (by omega) kD
       rw [bI, h5]
       have dL := h.grow (iw w)
       refine mB dL (hr.append qn) ?_ h3 (by rw [fU, hl, qj, Nat.add_mul]) h4 h1 h2
       intro u hu
       simp only [fH] at hu
       rcases hu with hu | hu
       · obtain ⟨j, hj⟩ := List.getElem?_of_mem hu
         exact (h.bO _ _ _ (kW j u hj)).2
       · exact va u hu
   · rename_i n τ l
     rintro ⟨Vc, hl, kD⟩
     simp only [aw] at hs
     obtain ⟨aG, off, c, vs, rfl, AZ, sB, vd, kW, hr⟩ := hs
     simp only [nN] at vd
     obtain ⟨rfl, uB⟩ := vd
     obtain ⟨ZZ, c', cur, k1, k2, k3, k4, k5, k6, k7⟩ := h.tok τ _ Vc
     rw [uB] at k1; cases k1
     have C9 : vs.length = n * i.size := by rw [hr.length, hl]
     by_cases mT : n + m <= c
     · have mh : n * i.size + us.length <= cur.size := by
        have e4 : cur.size = c * i.size := k4
        rw [IK, e4, <- Nat.add_mul]; exact Nat.mul_le_mul_right _ mT
       have eY := run_storeCells_at C.P aG (n * i.size) e us 0 cur w k3 (by simpa using mh) va
       simp only [Nat.add_zero] at eY
       rw [bI, lX ht hu hd hi hm (hf w rfl) mT]
       simp only [ix, cq, eY, bY]
       obtain ⟨tb, g', t1, hle, t2, t3, t4⟩ := h.Wg Vc uB cur (cur.toList.take (n * i.size) ++ us ++ cur.toList.drop (n * i.size + us.length)).toArray us m k3 IK mT (by simp) va
       refine ⟨_, _, g', tb, rfl, t1, hle, t4, ?_⟩
       simp only [NV.at, aw]
       refine ⟨aG, 0, c, vs ++ us, rfl, mT, sB, ⟨rfl, t2⟩, fun j u hu => ?_, (hr.append qn).mono hle⟩
       by_cases hj : j < vs.length
       · rw [tW hj] at hu
         exact (kW.mono hle) j u hu
       · rw [List.getElem?_append_right (by omega)] at hu
         have e0 : n * i.size + (j - vs.length) = 0 + j := by omega
         have ZQ : g'.bO aG (n * i.size + (j - vs.length)) = some u := t3 _ u hu
         rw [e0] at ZQ
         exact ZQ
     · have ho : ∀ W : World, W.heap = w.heap -> (Builtin.firstCells i.size n (.slice (some ⟨aG, 0, none⟩) n c)).run C.P W = .ok vs.toArray W := fun W hW =>
        run_firstCells_some W i.size n ⟨aG, 0, none⟩ n c vs C9 (fun j u hu => by
         rw [ix]
         have : W.cell? ⟨aG, 0 + j, none⟩ = w.cell? ⟨aG, 0 + j, none⟩ := by simp [World.cell?, hW]
         rw [this]; exact (h.bO _ _ _ (kW j u hu)).1)
       obtain ⟨cap, rest, h1, h2, h3, h4, h5⟩ := grow (some ⟨aG, 0, none⟩) n c vs ho C9 (by omega) kD
       rw [bI, h5]
       have dL := h.grow (iw w)
       refine mB dL (hr.append qn) ?_ h3 (by rw [fU, hl, qj, Nat.add_mul]) h4 h1 h2
       intro u hu
       simp only [fH] at hu
       rcases hu with hu | hu
       · obtain ⟨j, hj⟩ := List.getElem?_of_mem hu
         exact (h.bO _ _ _ (kW j u hj)).2
       · exact va u hu
   · rename_i b off n gy e'
     split
     · rename_i l hb
       rintro ⟨rfl, rfl, rfl, Zi, kD⟩
       simp only [aw] at hs
       obtain ⟨x, c, hx, rfl, AZ, sB, Ya, Vh⟩ := hs
       obtain ⟨x', cur, vs, Ym, k1, k2, k3, k4, k5, k6, k7, k8⟩ := h.box b l hb
       rw [hx] at k1; cases k1
       have qf : cur.size = c * i.size := by rw [k4]; omega
       have C9 := k6.length
       by_cases mT : n + m <= c
       · have mh : n * i.size + us.length <= cur.size := by
          rw [IK, qf, <- Nat.add_mul]; exact Nat.mul_le_mul_right _ mT
         have eY := run_storeCells_at C.P x.aG (n * i.size) x.e us 0 cur w k3 (by simpa using mh) va
         simp only [Nat.add_zero] at eY
         rw [bI, lX ht hu hd hi hm (hf w rfl) mT]
         simp only [ix, cq, eY, bY]
         have e1 : cur.toList.take (n * i.size) = vs.take (n * i.size) := by rw [k5, List.take_append_of_le_length (by omega)]
         have sE := h.setRow hb hx (l' := l.take (n * i.size) ++ l2) (cur.toList.take (n * i.size) ++ us ++ cur.toList.drop (n * i.size + us.length)).toArray (vs.take (n * i.size) ++ us) (cur.toList.drop (n * i.size + us.length)) (by
          simp only [List.size_toArray, fU, List.length_take, List.length_drop, ph]; omega) (by simp [e1]) ((k6.take _).append qn) (by
          intro u hu
          simp only [fH] at hu
          rcases hu with (hu | hu) | hu
          · exact k7 u (List.mem_of_mem_take hu)
          · exact va u hu
          · exact k7 u (List.mem_of_mem_drop hu))
         obtain ⟨b', g', f1, hle, f2, f3⟩ := sE.rename (b := b) (x := .box (l.take (n * i.size) ++ l2)) (by simp [St.bW, St.set]) hx
         have ed : (U.bW b (l.take (n * i.size) ++ l2)).del b = U.del b := by
          simp only [St.bW, St.set, St.del, St.mk.injEq, and_true]
          funext y
          split <;> rfl
         rw [ed] at f1 f3
         refine ⟨_, _, g', b', rfl, f1, hle, f3, ?_⟩
         simp only [NV.at, aw]
         exact ⟨x, c, f2, rfl, mT, sB, Ya, Vh⟩
       · have Zu : (vs.take (n * i.size)).length = n * i.size := by simp; omega
         have ho : ∀ W : World, W.heap = w.heap -> (Builtin.firstCells i.size n (.slice (some ⟨x.aG, 0, none⟩) n c)).run C.P W = .ok (vs.take (n * i.size)).toArray W := fun W hW =>
          run_firstCells_some W i.size n ⟨x.aG, 0, none⟩ n c _ Zu (fun j u hu => by
           rw [ix]
           have : W.cell? ⟨x.aG, 0 + j, none⟩ = w.cell? ⟨x.aG, 0 + j, none⟩ := by simp [World.cell?, hW]
           rw [this, cell_of_row _ _ _ cur x.e (0, 0) k3, cq, <- iH, k5]
           rw [List.getElem?_take] at hu
           split at hu
           · rw [tW (by omega)]; exact hu
           · cases hu)
         obtain ⟨cap, rest, h1, h2, h3, h4, h5⟩ := grow (some ⟨x.aG, 0, none⟩) n c _ ho Zu (by omega) kD
         rw [bI, h5]
         have dL := h.grow (iw w)
         refine nR dL ((k6.take _).append qn) ?_ h3 h4 h1 h2
         intro u hu
         simp only [fH] at hu
         rcases hu with hu | hu
         · refine k7 u ?_
           rw [k5]
           exact List.mem_append_left _ (List.mem_of_mem_take hu)
         · exact va u hu
     · trivial
   · trivial
 · trivial
end
end Go.Rip
namespace Go.Rip
open Go.RowKit
section
variable {C : cr} {g : Gh} {U : St} {w : World}
def cV (uZ : Int) : Option AV -> Option Int
 | none => some uZ
 | some (.int _ n) => some n
 | _ => none
def oN : iW -> Option AV -> iW
 | .full, none => .full
 | _, _ => .hC
def DT (P : Program) (t : TypeId) (x : AV) (lo hi : Option AV) : av :=
 match x with
 | .str s => match kG P t, cV 0 lo, cV s.length hi with
   | true, some l, some h => .cond (0 <= l /\ l <= h /\ h <= s.length) (.val (.str ((s.take h.toNat).drop l.toNat)))
   | _, _, _ => .bad
 | .vec n cap l => match eg P t, cV 0 lo, cV n hi with
   | some (_, sz), some a, some b => .cond (0 <= a /\ a <= b /\ b <= n) (.val (.vec (b.toNat - a.toNat) (oN cap hi) ((l.take (b.toNat * sz)).drop (a.toNat * sz))))
   | _, _, _ => .bad
 | .ax => match eg P t, cV 0 lo, cV 0 hi with
   | some (_, _), some a, some b => .cond (a = 0 /\ b = 0) (.val .ax)
   | _, _, _ => .bad
 | .ms b off n gy e => match eg P t, cV 0 lo, cV n hi with
   | some (_, sz), some a, some h => .cond (0 <= a /\ a <= h /\ h <= n /\ (a < n \/ a = 0) /\ gy = sz) (.val (.ms b (off + a.toNat * sz) (h.toNat - a.toNat) gy e))
   | _, _, _ => .bad
 | _ => .bad
theorem run_sliceBound {P : Program} {x : Value} {k : IntKind} {n : Int} {y : Nat} {code : BoundsCode} (hx : x = .int k n) (h0 : 0 <= n) (h1 : n <= y) : (Instr.sliceBound x y code).run P w = .ok n.toNat w := by
 subst hx
 simp [Instr.sliceBound, asIntOf, h0, h1]
theorem yw {uZ : Int} {o : Option AV} {v : Option Value} {n : Int} (hr : match o, v with | none, none => True | some x, some u => aw g x u | _, _ => False) (hb : cV uZ o = some n) :
 (o = none /\ v = none /\ n = uZ) \/ ∃ k u, v = some u /\ u = .int k n /\ ∃ x, o = some x := by
 cases o with
 | none =>
   cases v with
   | none => simp [cV] at hb; exact .inl ⟨rfl, rfl, hb.symm⟩
   | some u => exact hr.elim
 | some x =>
   cases v with
   | none => exact hr.elim
   | some u =>
     cases x <;> simp only [cV, reduceCtorEq, gq] at hb
     subst hb
     simp only [aw] at hr
     exact .inr ⟨_, u, rfl, hr, _, rfl⟩
theorem lj {P : Program} {isS : Bool} {len cap : Nat} {lo hi : Option AV} {vl vh : Option Value} {a b : Int}
 (hl : match lo, vl with | none, none => True | some x, some u => aw g x u | _, _ => False) (hh : match hi, vh with | none, none => True | some x, some u => aw g x u | _, _ => False)
 (ha : cV 0 lo = some a) (hb : cV len hi = some b) (h0 : 0 <= a) (h1 : a <= b) (h2 : b <= len) (h3 : len <= cap) :
 (Instr.sliceBounds isS len cap vl vh none).run P w = .ok (a.toNat, b.toNat, cap) w := by
 rcases yw hl ha with ⟨_, rfl, rfl⟩ | ⟨k, u, rfl, hu, _⟩ <;> rcases yw hh hb with ⟨_, rfl, rfl⟩ | ⟨k', u', rfl, mb, _⟩
 · simp [Instr.sliceBounds]
 · have e1 : ∀ c, (Instr.sliceBound u' cap c).run P w = .ok b.toNat w := fun c => run_sliceBound mb (by omega) (by omega)
   simp [Instr.sliceBounds, e1]
 · have e1 : ∀ c, (Instr.sliceBound u len c).run P w = .ok a.toNat w := fun c => run_sliceBound hu h0 (by omega)
   simp [Instr.sliceBounds, e1]
 · have e1 : ∀ c, (Instr.sliceBound u' cap c).run P w = .ok b.toNat w := fun c => run_sliceBound mb (by omega) (by omega)
   have e2 : ∀ c, (Instr.sliceBound u b.toNat c).run P w = .ok a.toNat w := fun c => run_sliceBound hu h0 (by omega)
   simp [Instr.sliceBounds, e1, e2]
theorem E0 (h : aZ g U w) {t : TypeId} {x : AV} {v : Value} {lo hi : Option AV} {vl vh : Option Value} (hx : aw g x v)
 (hl : match lo, vl with | none, none => True | some x, some u => aw g x u | _, _ => False) (hh : match hi, vh with | none, none => True | some x, some u => aw g x u | _, _ => False) :
 av.Fits C g U (DT C.P t x lo hi) ((do let r <- Instr.sliceAt t v vl vh none; pure (Next.value r) : Sem Next).run C.P w) := by
 have ix : ∀ aG off j, (⟨aG, off, none⟩ : Addr).add j = ⟨aG, off + j, none⟩ := fun aG off j => by unfold Addr.add; split <;> simp_all
 unfold DT
 split
 · rename_i s
   split
   · rename_i a b ht ha hb
     rintro ⟨h0, h1, h2⟩
     simp only [aw] at hx
     subst hx
     have dE : (ByteArray.mk s.toArray).size = s.length := by simp [ByteArray.size]
     have hr := lj (w := w) (P := C.P) (isS := false) hl hh ha hb h0 h1 h2 (de _)
     simp only [Instr.sliceAt, Instr.slice, run_underlying (mF ht), bI, bY, dE, hr, ca, Option.isSome_none, bm, if_false]
     refine aS h ?_
     simp only [aw]
     congr 1
     apply ByteArray.ext
     simp only [ByteArray.data_extract]
     apply Array.ext'
     simp [List.extract_eq_take_drop, List.drop_take]
   · trivial
 · rename_i n cap l
   split
   · rename_i e sz a b ht ha hb
     rintro ⟨h0, h1, h2⟩
     simp only [aw] at hx
     obtain ⟨aG, off, c, vs, rfl, AZ, sB, vd, kW, hr⟩ := hx
     obtain ⟨i, z, hu, ik, hz, sG, rfl, mY, _⟩ := fY ht
     have fy := lj (w := w) (P := C.P) (isS := true) hl hh ha hb h0 h1 h2 AZ
     simp only [Instr.sliceAt, Instr.slice, run_underlying hu, bI, bY, fy, ca, dJ ik]
     refine aS h ?_
     have XU : nN g (oN cap hi) aG (if c = a.toNat then off else off + a.toNat * i.size) (b.toNat - a.toNat) (c - a.toNat) := by
      cases cap with
      | full =>
        cases hi with
        | none =>
          simp only [oN, nN] at vd ⊢
          simp only [cV, gq] at hb
          omega
        | some y => trivial
      | own τ => trivial
      | hC => trivial
     simp only [aw]
     refine ⟨aG, if c = a.toNat then off else off + a.toNat * i.size, c - a.toNat, (vs.take (b.toNat * i.size)).drop (a.toNat * i.size), ?_, by omega, by omega, XU, ?_, (hr.take _).drop _⟩
     · simp only [Option.map_some, ix]
       split <;> rfl
     · split
       · rename_i e1
         have : (vs.take (b.toNat * i.size)).drop (a.toNat * i.size) = [] := by
          rw [List.drop_eq_nil_iff]
          have : b.toNat <= a.toNat := by omega
          have := Nat.mul_le_mul_right i.size this
          simp; omega
         rw [this]; intro j u hu; simp at hu
       · intro j u hu
         rw [List.getElem?_drop, List.getElem?_take] at hu
         split at hu
         · have := kW _ u hu
           rw [Nat.add_assoc]; exact this
         · cases hu
   · trivial
 · split
   · rename_i e sz a b ht ha hb
     rintro ⟨rfl, rfl⟩
     simp only [aw] at hx
     subst hx
     obtain ⟨i, z, hu, ik, hz, sG, rfl, mY, _⟩ := fY ht
     have fy := lj (w := w) (P := C.P) (isS := true) (len := 0) (cap := 0) hl hh ha (by simpa using hb) (by omega) (by omega) (by simp) (de _)
     simp only [Instr.sliceAt, Instr.slice, run_underlying hu, bI, bY, fy, ca, dJ ik]
     refine aS h (by simp [aw])
   · trivial
 · rename_i b off n gy e
   split
   · rename_i e' sz a Y1 ht ha hb
     rintro ⟨h0, h1, h2, h3, rfl⟩
     simp only [aw] at hx
     obtain ⟨y, c, hy, rfl, AZ, sB, dE, Vh⟩ := hx
     obtain ⟨i, z, hu, ik, hz, sG, rfl, mY, _⟩ := fY ht
     have fy := lj (w := w) (P := C.P) (isS := true) hl hh ha hb h0 h1 h2 AZ
     simp only [Instr.sliceAt, Instr.slice, run_underlying hu, bI, bY, fy, ca, dJ ik]
     refine aS h ?_
     simp only [aw]
     have e2 : off + a.toNat * i.size + (c - a.toNat) * i.size = y.size := by
      have : a.toNat * i.size + (c - a.toNat) * i.size = c * i.size := by rw [<- Nat.add_mul]; congr 1; omega
      omega
     refine ⟨y, c - a.toNat, hy, ?_, by omega, by omega, e2, Vh⟩
     simp only [Option.map_some, ix]
     split
     · rename_i e1
       have h0a : a.toNat = 0 := by omega
       simp [h0a]
     · rfl
   · trivial
 · trivial
def fi (op : UnOp) (x : AV) : av :=
 match op, x with
 | .not, .bool b => .val (.bool (!b))
 | .neg, .int k n => gb k (0 - n)
 | _, _ => .bad
theorem Ej (h : aZ g U w) (k : IntKind) (n : Int) : av.Fits C g U (gb k n) (.ok (.value (.int k (k.wrap n))) w) := by
 unfold gb
 split
 · intro hi
   rw [uo hi]
   exact aS h (by simp only [aw])
 · exact aS h (by simp only [aw])
theorem O3 (h : aZ g U w) {op : UnOp} {x : AV} {v : Value} (hx : aw g x v) : av.Fits C g U (fi op x) ((do let r <- Op.unary op v; pure (Next.value r) : Sem Next).run C.P w) := by
 unfold fi
 split
 · simp only [aw] at hx; subst hx
   exact aS h (by simp only [aw])
 · simp only [aw] at hx; subst hx
   simp only [Op.unary, Op.intArith, bI, ca, bY]
   exact Ej h _ _
 · trivial
def GX (P : Program) (t : TypeId) : Option IntKind := match P.underlying t with | some (.int k) => some k | _ => none
def tD (P : Program) (t : TypeId) : Bool := match P.underlying t with
 | some (.slice e) => match P.underlying e with
   | some (.int .u8) => true
   | _ => false
 | _ => false
theorem BL {P : Program} {t : TypeId} (h : tD P t = true) : ∃ e, P.underlying t = some (.slice e) /\ P.underlying e = some (.int .u8) := by
 unfold tD at h
 split at h
 · rename_i e he
   split at h
   · rename_i hu; exact ⟨e, he, hu⟩
   · cases h
 · cases h
def BS (P : Program) (src dst : TypeId) (x : AV) : av :=
 match GX P dst, (P.underlying src).isSome, x with
 | some .i64, true, .int _ n => .cond (uu n) (.val (.int .i64 n))
 | some k, true, .int _ n => .val (.int k (k.wrap n))
 | none, true, .str s => if kG P dst = true /\ kG P src = true then .val (.str s) else
   if tD P dst = true /\ kG P src = true then .cond (s.length <= 4294967296) (.val (.vec s.length .hC (s.map fun b => .int .u8 b.toNat))) else .bad
 | _, _, _ => .bad
theorem BO (h : aZ g U w) {src dst e : TypeId} {s : List UInt8} (hd : C.P.underlying dst = some (.slice e)) (he : C.P.underlying e = some (.int .u8)) (hs : C.P.underlying src = some .string) (hlen : s.length <= 4294967296) :
 av.Fits C g U (.val (.vec s.length .hC (s.map fun b => .int .u8 b.toNat))) ((do let r <- convert src dst (.string ⟨s.toArray⟩); pure (Next.value r) : Sem Next).run C.P w) := by
 have fy := Lib.run_convert_string_bytes (P := C.P) w src dst e ⟨s.toArray⟩ hs hd he
 have dE : (ByteArray.mk s.toArray).size = s.length := by simp [ByteArray.size]
 rw [dE] at fy
 have gn := grownCap_ge w s.length 0 e
 have hle := grownCap_le_maxLen w s.length 0 e (by unfold maxLen; omega)
 let vs : List Value := s.map fun b => .int .u8 b.toNat
 let g' : Gh := { g with bO := fun aG o => if aG = w.heap.size then vs[o]? else g.bO aG o }
 have mX : ∀ o, g'.bO w.heap.size o = vs[o]? := fun o => by show (if w.heap.size = w.heap.size then _ else _) = _; rw [if_pos rfl]
 have hold : ∀ aG o, aG ≠ w.heap.size -> g'.bO aG o = g.bO aG o := fun aG o hx => by show (if aG = w.heap.size then _ else _) = _; rw [if_neg hx]
 have GM : Gh.Le g g' := ⟨rfl, rfl, fun _ _ h => h, fun aG o u hu => by
  rw [hold _ _ (fun e => by subst e; rw [h.wm (de _)] at hu; cases hu)]; exact hu, fun _ _ h => h, fun _ h => h, fun q o hq => hold _ _ (by have := h.le; omega), fun _ _ => rfl⟩
 have dL : aZ g' U (Lib.bytesWorld w e ⟨s.toArray⟩) := by
  refine h.change w.heap.size h.le GM rfl rfl ⟨rfl, rfl, rfl, by rw [Lib.bytesWorld_size]; omega⟩ (fun k _ hk => Lib.bytesWorld_at_old w e _ k hk) hold (fun _ _ => rfl) (fun o u hu => ?_) (fun es c hr => ?_) (fun b x p k1 k2 => Nat.ne_of_lt (h.tP k1 k2)) (h.Ar (de _))
  · rw [mX] at hu
    simp only [vs, ko, mv] at hu
    obtain ⟨b, hb, rfl⟩ := hu
    have aJ := (dy.1 hb).1
    refine ⟨?_, rfl⟩
    rw [Lib.bytesWorld_cell w e ⟨s.toArray⟩ o (by rw [dE]; exact aJ)]
    simp [List.getD, hb]
  · have : g.bE w.heap.size = some (es, c) := hr
    rw [h.tz (de _)] at this; cases this
 simp only [bI, fy, bY, ca]
 refine ⟨_, _, g', .inl rfl, GM, dL, ?_⟩
 simp only [aw]
 refine ⟨w.heap.size, 0, _, vs, rfl, gn, hle, trivial, fun i u hu => by rw [cq, mX]; exact hu, ?_⟩
 refine aD.zg (by simp [vs]) fun i x v hx hv => ?_
 simp only [vs, ko, mv] at hx hv
 obtain ⟨b, hb, rfl⟩ := hx
 obtain ⟨b', dA, rfl⟩ := hv
 rw [hb] at dA; cases dA
 simp only [aw]
theorem Gs (h : aZ g U w) {src dst : TypeId} {x : AV} {v : Value} (hx : aw g x v) : av.Fits C g U (BS C.P src dst x) ((do let r <- convert src dst v; pure (Next.value r) : Sem Next).run C.P w) := by
 unfold BS
 split
 · rename_i k n hk hs
   simp only [aw] at hx; subst hx
   have hu : C.P.underlying dst = some (.int .i64) := by unfold GX at hk; split at hk <;> simp_all
   obtain ⟨d, hd⟩ := Option.isSome_iff_exists.1 hs
   intro hi
   simp only [convert, run_underlying hu, run_underlying hd, bI, ca, bY, Conv.intToInt]
   rw [uo hi]
   exact aS h (by simp only [aw])
 · rename_i k _ n _ hk hs
   simp only [aw] at hx; subst hx
   have hu : C.P.underlying dst = some (.int k) := by unfold GX at hk; split at hk <;> simp_all
   obtain ⟨d, hd⟩ := Option.isSome_iff_exists.1 hs
   simp only [convert, run_underlying hu, run_underlying hd, bI, ca, bY, Conv.intToInt]
   exact aS h (by simp only [aw])
 · split
   · rename_i hc
     simp only [aw] at hx; subst hx
     simp only [convert, run_underlying (mF hc.1), run_underlying (mF hc.2), bI, ca, bY]
     exact aS h (by simp only [aw])
   · split
     · rename_i hc
       intro hlen
       simp only [aw] at hx; subst hx
       obtain ⟨e, hd, he⟩ := BL hc.1
       exact BO h hd he (mF hc.2) hlen
     · trivial
 · trivial
def vD (P : Program) (t : TypeId) : Bool := match P.underlying t with | some (.interface _) => false | some _ => true | none => false
def tI (P : Program) (t : TypeId) (x : AV) : av := if vD P t = true then .val (.iface t x) else .bad
theorem ze (h : aZ g U w) {t : TypeId} {x : AV} {v : Value} (hx : aw g x v) : av.Fits C g U (tI C.P t x) ((do let r <- Instr.makeInterface t v; pure (Next.value r) : Sem Next).run C.P w) := by
 unfold tI
 split
 · rename_i hc
   unfold vD at hc
   split at hc
   · cases hc
   · rename_i d hn hd
     simp only [Instr.makeInterface, run_underlying hd, bI, bY]
     cases d
     case interface => exact (hn _ rfl).elim
     all_goals
      simp only [ca, bY]
      exact aS h (by simp only [aw]; exact ⟨v, rfl, hx⟩)
   · cases hc
 · trivial
def aT (x : AV) (i : Nat) : av :=
 match x with
 | .aO l => fT (l.drop i)
 | _ => .bad
theorem BI (h : aZ g U w) {x : AV} {v : Value} (hx : aw g x v) (i : Nat) : av.Fits C g U (aT x i) ((do let r <- Instr.extract v i; pure (Next.value r) : Sem Next).run C.P w) := by
 unfold aT
 split
 · rename_i l
   simp only [aw] at hx
   obtain ⟨vs, rfl, hr⟩ := hx
   cases hd : l.drop i with
   | nil => trivial
   | cons y ys =>
     have hy : l[i]? = some y := by
      have := congrArg (fun l => l[0]?) hd
      simpa using this
     obtain ⟨u, hu, hyu⟩ := hr.get hy
     have e : vs.toArray[i]? = some u := by simpa using hu
     simp only [Instr.extract, e, bI, ca, bY]
     exact aS h hyu
 · trivial
def qA (x : AV) : av :=
 match x with
 | .iface t v => .panic (.iface t v)
 | _ => .bad
theorem ET (h : aZ g U w) {x : AV} {v : Value} (hx : aw g x v) : av.Fits C g U (qA x) ((do let r <- Instr.panic v; pure (Next.value r) : Sem Next).run C.P w) := by
 unfold qA
 split
 · have gZ := hx
   simp only [aw] at hx
   obtain ⟨u, rfl, hu⟩ := hx
   simp only [Instr.panic, bI, run_goPanic, Result.andThen_halt]
   exact ⟨_, w, rfl, h, gZ⟩
 · trivial
theorem Ak (h : aZ g U w) {ev : Operand -> Value} {o : Oper} {X : Operand} {x : AV} (ho : o.op = .nilCheck X) (hx : aw g x (ev X)) : av.Fits C g U (bz x) ((execOp ev o).run C.P w) := by
 unfold bz
 split
 · have gZ := hx
   simp only [aw] at hx
   obtain ⟨y, _, hv⟩ := hx
   simp only [execOp, ho, hv, ca]
   rw [hv] at gZ
   exact aS h gZ
 · have gZ := hx
   simp only [aw] at hx
   obtain ⟨_, _, _, hv, _⟩ := hx
   simp only [execOp, ho, hv, ca]
   rw [hv] at gZ
   exact aS h gZ
 · have gZ := hx
   simp only [aw] at hx
   obtain ⟨_, _, hv, _⟩ := hx
   simp only [execOp, ho, hv, ca]
   rw [hv] at gZ
   exact aS h gZ
 · trivial
def G5 (P : Program) (t : TypeId) : Option Bool :=
 match P.underlying t with
 | some .string => some true
 | some (.slice _) => some false
 | _ => none
def Dp (P : Program) (t : TypeId) (x : AV) (U : St) : av :=
 match G5 P t, x with
 | some true, .str s => .val (.int .i64 s.length)
 | some false, .vec n _ _ => .val (.int .i64 n)
 | some false, .ms _ _ n _ _ => .val (.int .i64 n)
 | some false, .ax => .val (.int .i64 0)
 | _, _ => .bad
theorem ra {P : Program} {t : TypeId} {b : Bool} (h : G5 P t = some b) : (b = true /\ P.underlying t = some .string) \/ (b = false /\ ∃ e, P.underlying t = some (.slice e)) := by
 unfold G5 at h
 split at h
 · rename_i e; simp at h; exact .inl ⟨h, e⟩
 · rename_i e' e; simp at h; exact .inr ⟨h, _, e⟩
 · cases h
theorem Jh (h : aZ g U w) {t ty : TypeId} {x : AV} {v : Value} (hx : aw g x v) : av.Fits C g U (Dp C.P t x U) ((do let r <- Builtin.len_ #[t] ty #[v]; pure (Next.value r) : Sem Next).run C.P w) := by
 unfold Dp
 split
 · rename_i s C7
   have hu : C.P.underlying t = some .string := by rcases ra C7 with ⟨_, h⟩ | ⟨h, _⟩ <;> first | exact h | cases h
   simp only [aw] at hx; subst hx
   have dE : (ByteArray.mk s.toArray).size = s.length := by simp [ByteArray.size]
   simp [Builtin.len_, run_underlying hu, goInt, dE]
   exact aS h (by simp only [aw])
 · rename_i C7
   obtain ⟨e0, hu⟩ : ∃ e, C.P.underlying t = some (.slice e) := by rcases ra C7 with ⟨h, _⟩ | ⟨_, h⟩ <;> first | exact h | cases h
   simp only [aw] at hx
   obtain ⟨_, _, _, _, rfl, _⟩ := hx
   simp [Builtin.len_, run_underlying hu, goInt]
   exact aS h (by simp only [aw])
 · rename_i C7
   obtain ⟨e0, hu⟩ : ∃ e, C.P.underlying t = some (.slice e) := by rcases ra C7 with ⟨h, _⟩ | ⟨_, h⟩ <;> first | exact h | cases h
   simp only [aw] at hx
   obtain ⟨_, _, _, rfl, _⟩ := hx
   simp [Builtin.len_, run_underlying hu, goInt]
   exact aS h (by simp only [aw])
 · rename_i C7
   obtain ⟨e0, hu⟩ : ∃ e, C.P.underlying t = some (.slice e) := by rcases ra C7 with ⟨h, _⟩ | ⟨_, h⟩ <;> first | exact h | cases h
   simp only [aw] at hx; subst hx
   simp [Builtin.len_, run_underlying hu, goInt]
   exact aS h (by simp only [aw])
 · trivial
def rT (x y : AV) : av :=
 match x, y with
 | .int k a, .int k' b => if k = k' then .val (.int k (if b < a then b else a)) else .bad
 | _, _ => .bad
def xV (x y : AV) : av :=
 match x, y with
 | .int k a, .int k' b => if k = k' then .val (.int k (if b > a then b else a)) else .bad
 | _, _ => .bad
theorem Jn (h : aZ g U w) {ts : Array TypeId} {ty : TypeId} {x y : AV} {v u : Value} (hx : aw g x v) (hy : aw g y u) : av.Fits C g U (xV x y) ((do let r <- Builtin.max_ ts ty #[v, u]; pure (Next.value r) : Sem Next).run C.P w) := by
 unfold xV
 split
 · split
   · rename_i e; subst e
     simp only [aw] at hx hy; subst hx hy
     simp [Builtin.max_, Builtin.max2]
     exact aS h (by simp only [aw])
   · trivial
 · trivial
theorem Jo (h : aZ g U w) {ts : Array TypeId} {ty : TypeId} {x y : AV} {v u : Value} (hx : aw g x v) (hy : aw g y u) : av.Fits C g U (rT x y) ((do let r <- Builtin.min_ ts ty #[v, u]; pure (Next.value r) : Sem Next).run C.P w) := by
 unfold rT
 split
 · split
   · rename_i e; subst e
     simp only [aw] at hx hy; subst hx hy
     simp [Builtin.min_, Builtin.min2]
     exact aS h (by simp only [aw])
   · trivial
 · trivial
end
end Go.Rip
namespace Go.Rip
open Go.RowKit
section
variable {C : cr} {g : Gh} {U : St} {w : World}
def eO (place : Nat -> Option (Nat × Nat)) : List (Nat × AV) -> List AV -> (List AV -> av) -> av
 | [], z, k => k z
 | (i, x) :: rest, z, k => match place i with
   | some (off, size) => .cond (x.cS = true /\ (aA x).length = size /\ off + size <= z.length) (eO place rest (aH z off (aA x)) k)
   | none => .bad
theorem u5 (off : Nat) : ∀ (l : List Value) (j : Nat) (cs : Array Value), off + j + l.length <= cs.size ->
 ((l.zipIdx j).foldl (fun (cs : Array Value) (p : Value × Nat) => cs.setIfInBounds (off + p.2) p.1) cs).toList = cs.toList.take (off + j) ++ l ++ cs.toList.drop (off + j + l.length)
 | [], j, cs, _ => by simp
 | v :: l, j, cs, hle => by
   simp only [List.zipIdx_cons, List.foldl_cons]
   simp only [jy] at hle
   rw [u5 off l (j + 1) _ (by simp; omega)]
   have hs := list_seg_step cs.toList (off + j) v l (by simpa using hle)
   rw [Array.toList_setIfInBounds]
   rw [show off + (j + 1) = off + j + 1 from rfl]
   exact hs
theorem qR {place : Nat -> Option (Nat × Nat)} {k : List AV -> av} {kk : Array Value -> Sem Value} {S : String}
 (hk : ∀ (z : List AV) (cs : Array Value), aD g z cs.toList -> (∀ u ∈ cs.toList, u.oneCell' = true) -> av.Fits C g U (k z) ((do let r <- kk cs; pure (Next.value r) : Sem Next).run C.P w)) :
 ∀ (parts : List (Nat × AV)) (vs : List (Nat × Value)) (z : List AV) (cs : Array Value), vs.length = parts.length -> (∀ (i : Nat) (p : Nat × AV) (q : Nat × Value), parts[i]? = some p -> vs[i]? = some q -> p.1 = q.1 /\ aw g p.2 q.2) ->
  aD g z cs.toList -> (∀ u ∈ cs.toList, u.oneCell' = true) ->
  av.Fits C g U (eO place parts z k) ((do let r <- (match Instr.fill place cs vs with | some yC => kk yC | none => stuck S); pure (Next.value r) : Sem Next).run C.P w)
 | [], [], z, cs, _, _, hz, h1 => by
   simp only [eO, Instr.fill]
   exact hk z cs hz h1
 | [], _ :: _, _, _, h, _, _, _ => by simp at h
 | _ :: _, [], _, _, h, _, _, _ => by simp at h
 | (i, x) :: parts, (j, v) :: vs, z, cs, hl, hp, hz, h1 => by
   obtain ⟨rfl, hx⟩ := hp 0 _ _ rfl rfl
   dsimp only at hx ⊢
   simp only [eO]
   cases pw : place i with
   | none => trivial
   | some os =>
     obtain ⟨off, size⟩ := os
     rintro ⟨a1, a2, a3⟩
     obtain ⟨wY, wZ⟩ := uV hx a1
     have hlen := wY.length
     have Da := hz.length
     have vp : v.cells.size = size := by rw [<- ph, hlen, a2]
     have hcz : off + v.cells.size <= cs.size := by rw [vp, <- ph, Da]; exact a3
     have e : (v.cells.zipIdx.foldl (fun (cs : Array Value) (p : Value × Nat) => cs.setIfInBounds (off + p.2) p.1) cs).toList = cs.toList.take off ++ v.cells.toList ++ cs.toList.drop (off + v.cells.toList.length) := by
      rw [<- Array.foldl_toList, Array.toList_zipIdx]
      have := u5 off v.cells.toList 0 cs (by simpa using hcz)
      simpa using this
     have XV : (v.cells.size ≠ size || off + v.cells.size > cs.size) = false := by simp [vp]; omega
     simp only [Instr.fill, pw]
     rw [if_neg (by rw [XV]; simp)]
     refine qR hk parts vs _ _ (by simpa using hl) (fun i p q h2 h3 => hp (i + 1) p q (by simpa using h2) (by simpa using h3)) ?_ ?_
     · show aD g (aH z off (aA x)) (v.cells.zipIdx.foldl (fun (cs : Array Value) (p : Value × Nat) => cs.setIfInBounds (off + p.2) p.1) cs).toList
       rw [e]
       unfold aH
       rw [hlen]
       exact ((hz.take _).append wY).append (hz.drop _)
     · show ∀ u ∈ (v.cells.zipIdx.foldl (fun (cs : Array Value) (p : Value × Nat) => cs.setIfInBounds (off + p.2) p.1) cs).toList, u.oneCell' = true
       rw [e]
       intro u hu
       simp only [fH] at hu
       rcases hu with (hu | hu) | hu
       · exact h1 u (List.mem_of_mem_take hu)
       · exact wZ u hu
       · exact h1 u (List.mem_of_mem_drop hu)
def jL (C : cr) (ρ : Env) (parts : Array (Nat × Operand)) : List (Nat × AV) := parts.toList.map fun p => (p.1, ρ.ev C p.2)
def Cq (P : Program) (t : TypeId) (parts : List (Nat × AV)) : av :=
 match wE P t, mV P t with
 | some pl, some z => eO (fun i => pl[i]?) parts z fun z => .val (.agg z)
 | none, some z => match rG P t with
   | some (_, _, sz) => eO (fun i => some (i * sz, sz)) parts z fun z => .val (.agg z)
   | none => .bad
 | _, _ => .bad
theorem DZ {P : Program} {t : TypeId} {pl : List (Nat × Nat)} (h : wE P t = some pl) : ∃ fs : Array Field, P.underlying t = some (.struct fs) /\ pl = fs.toList.map (fun f => (f.offset, P.cellsOf f.type)) /\
 (fs.mapM (fun f => do pure (f.offset, <- sizeOf f.type) : Field -> Sem (Nat × Nat))).run P w = .ok pl.toArray w := by
 unfold wE at h
 split at h
 · rename_i fs hu
   split at h
   · rename_i bq
     simp only [gq] at h
     refine ⟨fs, hu, h.symm, ?_⟩
     rw [Array.mapM_eq_mapM_toList]
     rw [Array.all_eq_true_iff_forall_mem] at bq
     have key : ∀ l : List Field, (∀ f ∈ l, (P.info? f.type).isSome = true) -> (l.mapM (fun f => do pure (f.offset, <- sizeOf f.type) : Field -> Sem (Nat × Nat))).run P w = .ok (l.map fun f => (f.offset, P.cellsOf f.type)) w := by
      intro l
      induction l with
      | nil => intro _; simp
      | cons f l ih =>
        intro hf
        obtain ⟨i, hi⟩ := Option.isSome_iff_exists.1 (hf f (by simp))
        have ih' := ih fun x hx => hf x (by simp [hx])
        have hc : P.cellsOf f.type = i.size := by simp [Program.cellsOf, hi]
        simp only [List.mapM_cons, bI, dJ hi, bY, ca, ih', dx, hc]
     have := key fs.toList (fun f hf => bq f (by simpa using hf))
     simp only [Sem.run_map, this, bY, h]
   · cases h
 · cases h
theorem Em (h : aZ g U w) {t : TypeId} {parts : List (Nat × AV)} {vs : Array (Nat × Value)} (hl : vs.size = parts.length) (hp : ∀ (i : Nat) (p : Nat × AV) (q : Nat × Value), parts[i]? = some p -> vs[i]? = some q -> p.1 = q.1 /\ aw g p.2 q.2) :
 av.Fits C g U (Cq C.P t parts) ((do let r <- Instr.build t vs; pure (Next.value r) : Sem Next).run C.P w) := by
 unfold Cq
 split
 · rename_i pl z hs hz
   obtain ⟨fs, hu, pw, fy⟩ := DZ (w := w) hs
   obtain ⟨i, zv, hi, qo, hm⟩ := ky hz
   obtain ⟨h1, h2⟩ := dI (g := g) hm
   have key := qR (C := C) (g := g) (U := U) (w := w) (place := fun i => pl.toArray[i]?) (k := fun z => .val (.agg z)) (kk := fun cs => pure (.agg cs)) (S := "build: no such field, or a part of the wrong size") (fun z cs hz h1 => by
    simp only [bI, ca, bY]
    exact aS h (by simp only [aw]; exact ⟨cs.toList, by simp, h1, hz⟩)) parts vs.toList z zv.cells (by simpa using hl) (fun i p q h1 h2 => hp i p q h1 (by simpa using h2)) h1 h2
   have e : (fun i : Nat => pl.toArray[i]?) = fun i => pl[i]? := by funext i; simp
   rw [<- e]
   simp only [Instr.build, bI, fg hi qo, bY, run_underlying hu, fy]
   cases hf : Instr.fill (fun i : Nat => pl.toArray[i]?) zv.cells vs.toList with
   | none => simp only [hf, bI, run_stuck, Result.andThen_halt] at key ⊢; exact key
   | some yC => simp only [hf, bI, ca, bY] at key ⊢; exact key
 · rename_i z hs hz
   split
   · rename_i n e sz ha
     obtain ⟨ie, hu, Y3, dE⟩ := qP ha
     obtain ⟨i, zv, hi, qo, hm⟩ := ky hz
     obtain ⟨h1, h2⟩ := dI (g := g) hm
     have key := qR (C := C) (g := g) (U := U) (w := w) (place := fun i => some (i * sz, sz)) (k := fun z => .val (.agg z)) (kk := fun cs => pure (.agg cs)) (S := "build: a part of the wrong size") (fun z cs hz h1 => by
      simp only [bI, ca, bY]
      exact aS h (by simp only [aw]; exact ⟨cs.toList, by simp, h1, hz⟩)) parts vs.toList z zv.cells (by simpa using hl) (fun i p q h1 h2 => hp i p q h1 (by simpa using h2)) h1 h2
     simp only [Instr.build, bI, fg hi qo, bY, run_underlying hu, dJ Y3, dE]
     cases hf : Instr.fill (fun i : Nat => some (i * sz, sz)) zv.cells vs.toList with
     | none => simp only [hf, bI, run_stuck, Result.andThen_halt] at key ⊢; exact key
     | some yC => simp only [hf, bI, ca, bY] at key ⊢; exact key
   · trivial
 · trivial
end
end Go.Rip
namespace Go.Rip
open Go.RowKit
section
variable {C : cr} {g : Gh} {U : St} {w : World}
def bN : Nat -> List AV -> List AV
 | 0, _ => []
 | n + 1, z => z ++ bN n z
theorem je (z : List AV) : ∀ n, (bN n z).length = n * z.length
 | 0 => by simp [bN]
 | n + 1 => by simp [bN, je z n, Nat.add_mul]; omega
theorem pO {z : List AV} {zv : Array Value} (hz : aD g z zv.toList) : ∀ n, aD g (bN n z) ((Array.range (n * zv.size)).map (zv[· % zv.size]!)).toList := fun n => by
 have hl : z.length = zv.size := by rw [<- hz.length]; simp
 refine aD.zg (by simp [je, hl]) fun i x v hx hv => ?_
 have key : ∀ n i x, (bN n z)[i]? = some x -> z[i % zv.size]? = some x := fun n => by
  induction n with
  | zero => intro i x hx; simp [bN] at hx
  | succ n ih =>
    intro i x hx
    simp only [bN] at hx
    by_cases hi : i < z.length
    · rw [tW hi] at hx
      rw [Nat.mod_eq_of_lt (by omega)]; exact hx
    · rw [List.getElem?_append_right (by omega)] at hx
      have := ih _ _ hx
      rw [hl, <- Nat.mod_eq_sub_mod (by omega)] at this
      exact this
 have gZ := key n i x hx
 obtain ⟨u, hu, hr⟩ := hz.get gZ
 simp only [Array.toList_map, ko, mv] at hv
 obtain ⟨j, hj, rfl⟩ := hv
 have CQ : j = i := by
  rw [iH, Array.getElem?_range] at hj
  split at hj
  · simp at hj; exact hj.symm
  · cases hj
 subst CQ
 have aJ : j % zv.size < zv.size := by
  have := (dy.1 hu).1
  simpa using this
 rw [getElem!_pos zv _ aJ]
 rw [iH, getElem?_pos zv _ aJ] at hu
 cases hu
 exact hr
def oM (P : Program) (t : TypeId) (n : Nat) (mu : Bool) (parts : List (Nat × AV)) : av :=
 match eg P t with
 | some (e, sz) => match mV P e with
   | some z => .cond (n * sz <= 16777216) (eO (fun i => some (i * sz, sz)) parts (bN n z) fun cs => .cond (cs.length = n * sz) (if mu then .lT n sz e none cs else .val (.vec n .full cs)))
   | none => .bad
 | none => .bad
theorem xK (h : aZ g U w) {t : TypeId} {n : Nat} {mu : Bool} {parts : List (Nat × AV)} {vs : Array (Nat × Value)} (hl : vs.size = parts.length) (hp : ∀ (i : Nat) (p : Nat × AV) (q : Nat × Value), parts[i]? = some p -> vs[i]? = some q -> p.1 = q.1 /\ aw g p.2 q.2) :
 av.Fits C g U (oM C.P t n mu parts) ((do let r <- Instr.buildSlice t n vs; pure (Next.value r) : Sem Next).run C.P w) := by
 unfold oM
 split
 · rename_i e sz hs
   split
   · rename_i z hz
     intro hn
     obtain ⟨i, zv, hu, hi, lz, sG, rfl, mY, _, h1⟩ := fY hs
     obtain ⟨i', WL, ik, qo, hm⟩ := ky hz
     rw [hi] at ik; cases ik
     rw [lz] at qo; cases qo
     obtain ⟨h1, h2⟩ := dI (g := g) hm
     have NH : ¬ (n * i.size > 2 ^ 24) := by omega
     have Vk := pO (g := g) h1 n
     have key := qR (C := C) (g := g) (U := U) (w := w) (place := fun j => some (j * i.size, i.size)) (k := fun cs => .cond (cs.length = n * i.size) (if mu then .lT n i.size e none cs else .val (.vec n .full cs)))
      (kk := fun cs => do pure (.slice (some (<- newRow e cs)) n n)) (S := "buildSlice: a part of the wrong size") (fun z cs hz wY => by
      intro hlen
      have qf : cs.size = n * i.size := by rw [<- ph, hz.length, hlen]
      have A0 : n <= maxLen := by
       have : n <= n * i.size := Nat.le_mul_of_pos_right _ mY
       unfold maxLen; omega
      simp only [newRow, bI, ca, run_newObj, bY]
      split
      · have := nR (C := C) (del := none) (e := e) (sz := i.size) (n := n) (c := n) h (vs := cs.toList) (rest := []) hz wY (by simp) (by simp [qf]) (de _) A0
        simpa using this
      · obtain ⟨g', hle, kW, _, _, dL⟩ := h.Js e cs cs.toList [] (by simp) wY
        refine ⟨_, _, g', .inl rfl, hle, dL, ?_⟩
        simp only [aw]
        exact ⟨w.heap.size, 0, n, cs.toList, rfl, de _, A0, rfl, kW, hz.mono hle⟩) parts vs.toList (bN n z) ((Array.range (n * zv.cells.size)).map (zv.cells[· % zv.cells.size]!)) (by simpa using hl) (fun i p q h1 h2 => hp i p q h1 (by simpa using h2)) Vk (by
        intro u hu
        simp only [Array.toList_map, List.mem_map] at hu
        obtain ⟨j, _, rfl⟩ := hu
        have aJ : j % zv.cells.size < zv.cells.size := Nat.mod_lt _ (by omega)
        rw [getElem!_pos zv.cells _ aJ]
        exact h2 _ (by simp))
     simp only [Instr.buildSlice, bI, run_underlying hu, dJ hi, bY, if_neg NH, ef, fg hi lz, ca]
     by_cases h0 : n * i.size = 0
     · have yT : n = 0 := by
        rcases Nat.mul_eq_zero.1 h0 with h | h
        · exact h
        · omega
       subst yT
       simp only [Nat.zero_mul, if_true, bY] at key ⊢
       have e1 : (Array.range 0).map ((#[] : Array Value)[· % (#[] : Array Value).size]!) = (Array.range 0).map (zv.cells[· % zv.cells.size]!) := by simp
       rw [e1]
       cases hf : Instr.fill (fun j => some (j * i.size, i.size)) ((Array.range 0).map (zv.cells[· % zv.cells.size]!)) vs.toList with
       | none => simp only [hf, bI, run_stuck, Result.andThen_halt] at key ⊢; exact key
       | some yC => simp only [hf, bI, ca, bY] at key ⊢; exact key
     · simp only [if_neg h0, bY]
       rw [sG] at key ⊢
       cases hf : Instr.fill (fun j => some (j * i.size, i.size)) ((Array.range (n * i.size)).map (zv.cells[· % i.size]!)) vs.toList with
       | none => simp only [hf, bI, run_stuck, Result.andThen_halt] at key ⊢; exact key
       | some yC => simp only [hf, bI, ca, bY] at key ⊢; exact key
   · trivial
 · trivial
def nY (P : Program) (t : TypeId) : Option (FK × TypeId) :=
 match P.underlying t with
 | some (.map k e) => match P.underlying k with
   | some (.int _) => some (.i, e)
   | some .string => some (.s, e)
   | _ => none
 | _ => none
def fz : FK -> AV -> AV -> Option Bool
 | .i, .int k a, .int k' b => if k = k' then some (a == b) else none
 | .s, .str a, .str b => some (a == b)
 | _, _, _ => none
def nV : FK -> AV -> Bool
 | .i, .int _ _ => true
 | .s, .str _ => true
 | _, _ => false
def jG (fk : FK) (k : AV) : List AV -> Nat -> Option (Option Nat)
 | [], _ => some none
 | y :: ys, i => match fz fk k y with
   | none => none
   | some b => if b = true then some (some i) else jG fk k ys (i + 1)
def fl (k v : AV) : List AV -> List AV -> List AV × List AV
 | [], _ => ([k], [v])
 | y :: ys, ws => if gB k y = true then (k :: y :: ys, v :: ws) else
   match ws with
   | [] => ([k], [v])
   | x :: xs => (y :: (fl k v ys xs).1, x :: (fl k v ys xs).2)
def nZ (P : Program) (t : TypeId) (m k v : AV) (U : St) : av :=
 match nY P t, m with
 | some (fk, _), .mp id => match U.mp id with
   | some (ks, vs) => match jG fk k ks 0, nV fk k with
     | some none, true => .jD (.aO []) id (.mp (fl k v ks vs).1 (fl k v ks vs).2)
     | some (some i), true => .jD (.aO []) id (.mp ks (vs.set i v))
     | _, _ => .bad
   | none => .bad
 | _, _ => .bad
def j6 (U : St) : AV -> Option (List AV × List AV)
 | .mp id => U.mp id
 | .eL ks vs => some (ks, vs)
 | .jS => some ([], [])
 | _ => none
def kg (fk : FK) (k : AV) (uZ : AV) (ok : Bool) : List AV -> List AV -> av
 | y :: ys, v :: vs => match fz fk k y with
   | none => .bad
   | some b => if b = true then .val (if ok then .aO [v, .bool true] else v) else kg fk k uZ ok ys vs
 | _, _ => .val (if ok then .aO [uZ, .bool false] else uZ)
def zeroV (P : Program) (t : TypeId) : Option AV := ((P.info? t).bind (·.zero)).map AO
def sM (P : Program) (t : TypeId) (m k : AV) (ok : Bool) (U : St) : av :=
 match nY P t, j6 U m with
 | some (fk, e), some (ks, vs) => match zeroV P e, nV fk k with
   | some z, true => kg fk k z ok ks vs
   | _, _ => .bad
 | _, _ => .bad
theorem vy {P : Program} {t e : TypeId} {fk : FK} (h : nY P t = some (fk, e)) : ∃ k, P.underlying t = some (.map k e) /\ ((fk = .i /\ ∃ q, P.underlying k = some (.int q)) \/ (fk = .s /\ P.underlying k = some .string)) := by
 unfold nY at h
 split at h
 · rename_i k e' hu
   split at h
   · rename_i q hq
     simp only [gq, jz] at h
     obtain ⟨rfl, rfl⟩ := h
     exact ⟨k, hu, .inl ⟨rfl, q, hq⟩⟩
   · rename_i hq
     simp only [gq, jz] at h
     obtain ⟨rfl, rfl⟩ := h
     exact ⟨k, hu, .inr ⟨rfl, hq⟩⟩
   · cases h
 · cases h
theorem pE {P : Program} {k : TypeId} {fk : FK} {d : TypeDesc} (hd : P.underlying k = some d) (hk : (fk = .i /\ ∃ q, d = .int q) \/ (fk = .s /\ d = .string)) {x y : AV} {u v : Value} {b : Bool} (hx : aw g x u) (hy : aw g y v) (h : fz fk x y = some b) :
 Instr.sameNow d u v = some b := by
 rcases hk with ⟨rfl, q, rfl⟩ | ⟨rfl, rfl⟩ <;> cases x <;> cases y <;> simp only [fz, reduceCtorEq] at h
 · split at h
   · rename_i e; subst e
     simp only [aw] at hx hy; subst hx hy
     simp at h; subst h
     simp [Instr.sameNow]
   · cases h
 · simp only [aw] at hx hy; subst hx hy
   simp only [gq] at h; subst h
   simp only [Instr.sameNow, beq_toListBytes, ByteArray.toList_eq, List.toList_toArray]
theorem findNow_spec {d : TypeDesc} {u : Value} : ∀ (es : List MapEntry) (i : Nat), (∀ e ∈ es, ∃ b, Instr.sameNow d u e.key = some b) ->
 ((∀ e ∈ es, Instr.sameNow d u e.key = some false) /\ Instr.findNow d u es i = some none) \/
 (∃ j e, es[j]? = some e /\ Instr.sameNow d u e.key = some true /\ Instr.findNow d u es i = some (some (i + j, e.val)))
 | [], i, _ => .inl ⟨by simp, by simp [Instr.findNow]⟩
 | e :: es, i, h => by
   obtain ⟨b, hb⟩ := h e (by simp)
   cases b
   · rcases findNow_spec es (i + 1) (fun x hx => h x (by simp [hx])) with ⟨h1, h2⟩ | ⟨j, e', h1, h2, h3⟩
     · refine .inl ⟨fun x hx => ?_, by simp [Instr.findNow, hb, h2]⟩
       rcases eA.1 hx with rfl | hx
       · exact hb
       · exact h1 x hx
     · exact .inr ⟨j + 1, e', by simpa using h1, h2, by simp [Instr.findNow, hb, h3]; omega⟩
   · exact .inr ⟨0, e, by simp, hb, by simp [Instr.findNow, hb]⟩
theorem rR {fk : FK} {k y : AV} (h : fz fk k y = some true) : k = y := by
 cases fk <;> cases k <;> cases y <;> simp only [fz, reduceCtorEq] at h
 · split at h
   · rename_i e; subst e; simp at h; rw [h]
   · cases h
 · simp at h; rw [h]
theorem G1 (k : AV) : gB k k = false := by
 cases k <;> simp [gB]
theorem EL {a b c : AV} (h : gB a b = true) (h' : gB b c = true) : gB a c = true := by
 cases a <;> cases b <;> simp only [gB, bm] at h <;> cases c <;> simp only [gB, bm, bP, cL] at h h' ⊢
 · exact ⟨h.1.trans h'.1, by omega⟩
 · exact List.lt_trans h h'
theorem NM {fk : FK} {k y : AV} (h : fz fk k y = some false) : gB k y = true \/ gB y k = true := by
 cases fk <;> cases k <;> cases y <;> simp only [fz, reduceCtorEq] at h
 · split at h
   · rename_i e; subst e; simp at h; simp [gB]; omega
   · cases h
 · simp at h
   simp only [gB, cL]
   rcases Classical.em ((_ : List UInt8) < _) with hl | hl
   · exact .inl hl
   · refine .inr ?_
     rcases Classical.em ((_ : List UInt8) < _) with qj | qj
     · exact qj
     · exact absurd (List.le_antisymm (List.not_lt.1 qj) (List.not_lt.1 hl)) h
theorem y8 {fk : FK} {k y z : AV} (h : fz fk k y = some true) (hz : gB y z = true \/ gB z y = true) : ∃ b, fz fk k z = some b := by
 have := rR h
 subst this
 cases fk <;> cases k <;> cases z <;> simp [fz, gB] at h hz ⊢
 rcases hz with ⟨e, _⟩ | ⟨e, _⟩
 · exact e
 · exact e.symm
theorem tm {fk : FK} {k : AV} : ∀ {ks : List AV} {s : Nat} {r : Option Nat}, jG fk k ks s = some r ->
 (r = none /\ ∀ y ∈ ks, fz fk k y = some false) \/ (∃ i, r = some (s + i) /\ ∃ y, ks[i]? = some y /\ fz fk k y = some true)
 | [], s, r, h => by simp only [jG, gq] at h; exact .inl ⟨h.symm, by simp⟩
 | y :: ys, s, r, h => by
   simp only [jG] at h
   split at h
   · cases h
   · rename_i b hb
     cases b
     · simp only [bm, if_false] at h
       rcases tm h with ⟨h1, h2⟩ | ⟨i, h1, z, h2, h3⟩
       · refine .inl ⟨h1, fun z hz => ?_⟩
         rcases eA.1 hz with rfl | hz
         · exact hb
         · exact h2 z hz
       · exact .inr ⟨i + 1, by rw [h1]; congr 1; omega, z, by simpa using h2, h3⟩
     · simp only [if_true, gq] at h
       exact .inr ⟨0, by rw [<- h]; rfl, y, by simp, hb⟩
theorem Hy {ks : List AV} (h : my ks) {i j : Nat} {y : AV} (hi : ks[i]? = some y) (hj : ks[j]? = some y) : i = j := by
 have key : ∀ i j, i < j -> ks[i]? = some y -> ks[j]? = some y -> False := fun i j fE hi hj => by
  obtain ⟨h1, h2⟩ := dy.1 hi
  obtain ⟨h3, h4⟩ := dy.1 hj
  have := List.pairwise_iff_getElem.1 h i j h1 h3 fE
  rw [h2, h4, G1] at this; cases this
 rcases Nat.lt_trichotomy i j with h | h | h
 · exact (key i j h hi hj).elim
 · exact h
 · exact (key j i h hj hi).elim
theorem xO {P : Program} {kt : TypeId} {fk : FK} {d : TypeDesc} (hd : P.underlying kt = some d) (hk : (fk = .i /\ ∃ q, d = .int q) \/ (fk = .s /\ d = .string)) {x : AV} {u : Value} (hx : aw g x u)
 {ks : List AV} {l es : List MapEntry} (hp : l.Perm es) (hs : my ks) (hr : aD g ks (l.map (·.key))) {r : Option Nat} (h : jG fk x ks 0 = some r) :
 (r = none /\ (∀ y ∈ ks, fz fk x y = some false) /\ ∀ i, Instr.findNow d u es i = some none) \/
 (∃ i j e, r = some i /\ ks[i]? = some x /\ l[i]? = some e /\ es[j]? = some e /\ aw g x e.key /\ ∀ s, Instr.findNow d u es s = some (some (s + j, e.val))) := by
 have mem : ∀ e ∈ es, ∃ i y, ks[i]? = some y /\ l[i]? = some e /\ aw g y e.key := fun e he => by
  obtain ⟨i, hi⟩ := List.getElem?_of_mem (hp.mem_iff.2 he)
  have aJ : i < ks.length := by
   have h1 := (dy.1 hi).1
   have := hr.length
   simp at this; omega
  obtain ⟨v, hv, IM⟩ := hr.get (i := i) (x := ks[i]) (iY aJ)
  rw [ko, hi] at hv
  simp at hv
  subst hv
  exact ⟨i, ks[i], iY aJ, hi, IM⟩
 rcases tm h with ⟨rfl, h1⟩ | ⟨i, rfl, y, h1, h2⟩
 · refine .inl ⟨rfl, h1, fun s => ?_⟩
   have hf : ∀ e ∈ es, Instr.sameNow d u e.key = some false := fun e he => by
    obtain ⟨i, y, hy, _, IP⟩ := mem e he
    exact pE (P := P) hd hk hx IP (h1 y (fB hy))
   rcases findNow_spec es s (fun e he => ⟨_, hf e he⟩) with ⟨_, h2⟩ | ⟨j, e, q1, q2, _⟩
   · exact h2
   · rw [hf e (fB q1)] at q2; cases q2
 · have xg := rR h2
   subst xg
   have all : ∀ z ∈ ks, ∃ b, fz fk x z = some b := fun z hz => by
    obtain ⟨j, hj⟩ := List.getElem?_of_mem hz
    rcases Nat.lt_trichotomy i j with fE | fE | fE
    · obtain ⟨a1, a2⟩ := dy.1 h1
      obtain ⟨a3, a4⟩ := dy.1 hj
      have := List.pairwise_iff_getElem.1 hs i j a1 a3 fE
      rw [a2, a4] at this
      exact y8 h2 (.inl this)
    · subst fE; rw [h1] at hj; cases hj; exact ⟨_, h2⟩
    · obtain ⟨a1, a2⟩ := dy.1 h1
      obtain ⟨a3, a4⟩ := dy.1 hj
      have := List.pairwise_iff_getElem.1 hs j i a3 a1 fE
      rw [a2, a4] at this
      exact y8 h2 (.inr this)
   have same : ∀ e ∈ es, ∃ b, Instr.sameNow d u e.key = some b := fun e he => by
    obtain ⟨i, y, hy, _, IP⟩ := mem e he
    obtain ⟨b, hb⟩ := all y (fB hy)
    exact ⟨b, pE (P := P) hd hk hx IP hb⟩
   have CV : ∃ e0, l[i]? = some e0 /\ aw g x e0.key := by
    obtain ⟨v, hv, IM⟩ := hr.get h1
    rw [ko, mv] at hv
    obtain ⟨e0, h3, rfl⟩ := hv
    exact ⟨e0, h3, IM⟩
   obtain ⟨e0, AU, UA⟩ := CV
   have YL : Instr.sameNow d u e0.key = some true := pE (P := P) hd hk hx UA h2
   have h0m : e0 ∈ es := hp.mem_iff.1 (fB AU)
   have pick : ∀ s, ∃ j, es[j]? = some e0 /\ Instr.findNow d u es s = some (some (s + j, e0.val)) := fun s => by
    rcases findNow_spec es s same with ⟨q1, _⟩ | ⟨j, e, q1, q2, q3⟩
    · rw [q1 e0 h0m] at YL; cases YL
    · obtain ⟨i', y, hy, AY, IP⟩ := mem e (fB q1)
      obtain ⟨b, hb⟩ := all y (fB hy)
      have FC := pE (P := P) hd hk hx IP hb
      rw [q2] at FC
      simp only [gq] at FC
      subst FC
      have xg := rR hb
      subst xg
      have hii := Hy hs h1 hy
      subst hii
      rw [AU] at AY; cases AY
      exact ⟨j, q1, q3⟩
   obtain ⟨j, hj, hjf⟩ := pick 0
   refine .inr ⟨i, j, e0, by rw [cq], h1, AU, hj, UA, fun s => ?_⟩
   have shift : ∀ (es : List MapEntry) (a b : Nat) j v, Instr.findNow d u es a = some (some (a + j, v)) -> Instr.findNow d u es b = some (some (b + j, v)) := fun es => by
    induction es with
    | nil => intro a b j v h; simp [Instr.findNow] at h
    | cons e es ih =>
      intro a b j v h
      simp only [Instr.findNow] at h ⊢
      cases xe : Instr.sameNow d u e.key with
      | none => rw [xe] at h; cases h
      | some t =>
        rw [xe] at h
        cases t
        · dsimp only at h ⊢
          have hle : ∀ (es : List MapEntry) (a : Nat) r v, Instr.findNow d u es a = some (some (r, v)) -> a <= r := fun es => by
           induction es with
           | nil => intro a r v h; simp [Instr.findNow] at h
           | cons e es ih =>
             intro a r v h
             simp only [Instr.findNow] at h
             cases xe : Instr.sameNow d u e.key with
             | none => rw [xe] at h; cases h
             | some t =>
               rw [xe] at h
               cases t
               · have := ih _ _ _ h; omega
               · simp at h; omega
          have h1 := hle _ _ _ _ h
          have := ih (a + 1) (b + 1) (j - 1) v (by rw [h]; congr 3; omega)
          rw [this]; congr 3; omega
        · simp at h ⊢; obtain ⟨h1, h2⟩ := h; exact ⟨by omega, h2⟩
   exact shift es 0 s j _ hjf
theorem N1 {α : Type} {l m : List α} (h : l.Perm m) {i j : Nat} {e : α} (hi : l[i]? = some e) (hj : m[j]? = some e) (e' : α) : (l.set i e').Perm (m.set j e') := by
 obtain ⟨h1, h2⟩ := dy.1 hi
 obtain ⟨h3, h4⟩ := dy.1 hj
 have el : l = l.take i ++ e :: l.drop (i + 1) := by
  conv => lhs; rw [<- List.take_append_drop i l, gp h1, h2]
 have em : m = m.take j ++ e :: m.drop (j + 1) := by
  conv => lhs; rw [<- List.take_append_drop j m, gp h3, h4]
 rw [List.set_eq_take_append_cons_drop, if_pos h1, List.set_eq_take_append_cons_drop, if_pos h3]
 have hp : (l.take i ++ e :: l.drop (i + 1)).Perm (m.take j ++ e :: m.drop (j + 1)) := by rw [<- el, <- em]; exact h
 have h5 := (List.perm_middle.symm.trans hp).trans List.perm_middle
 have h6 := List.Perm.cons_inv h5
 exact (List.perm_middle.trans (h6.cons e')).trans List.perm_middle.symm
theorem run_checkKey {P : Program} {k : TypeId} {d : TypeDesc} {em : Bool} (hd : P.underlying k = some d) (hk : (∃ q, d = .int q) \/ d = .string) (n : Nat) (v : Value) : (Instr.checkKey em (n + 1) k v).run P w = .ok () w := by
 rcases hk with ⟨q, rfl⟩ | rfl <;> simp [Instr.checkKey, run_underlying hd]
theorem aD.set : ∀ {l : List AV} {vs : List Value} {x : AV} {u : Value} (i : Nat), aD g l vs -> aw g x u -> aD g (l.set i x) (vs.set i u)
 | [], _, _, _, _, h, _ => by simp only [aD] at h; subst h; simp [aD]
 | y :: ys, _, x, u, 0, h, hx => by
   simp only [aD] at h
   obtain ⟨v, vs, rfl, h1, h2⟩ := h
   simp only [List.set_cons_zero, aD]
   exact ⟨u, vs, rfl, hx, h2⟩
 | y :: ys, _, x, u, i + 1, h, hx => by
   simp only [aD] at h
   obtain ⟨v, vs, rfl, h1, h2⟩ := h
   simp only [List.set_cons_succ, aD]
   exact ⟨v, _, rfl, h1, aD.set i h2 hx⟩
theorem Dg {k v : AV} {e : MapEntry} (hk : aw g k e.key) (hv : aw g v e.val) : ∀ (ks vs : List AV) (l : List MapEntry), aD g ks (l.map (·.key)) -> aD g vs (l.map (·.val)) ->
 ∃ l' : List MapEntry, l'.Perm (e :: l) /\ aD g (fl k v ks vs).1 (l'.map (·.key)) /\ aD g (fl k v ks vs).2 (l'.map (·.val))
 | [], vs, l, h1, h2 => by
   simp only [aD, List.map_eq_nil_iff] at h1
   subst h1
   exact ⟨[e], List.Perm.refl _, by simp only [fl, dx, gJ, aD]; exact ⟨_, _, rfl, hk, rfl⟩, by simp only [fl, dx, gJ, aD]; exact ⟨_, _, rfl, hv, rfl⟩⟩
 | y :: ks, vs, [], h1, h2 => by simp [aD] at h1
 | y :: ks, [], f :: l, h1, h2 => by simp [aD] at h2
 | y :: ks, x :: vs, f :: l, h1, h2 => by
   simp only [fl]
   by_cases aJ : gB k y = true
   · rw [if_pos aJ]
     exact ⟨e :: f :: l, List.Perm.refl _, by rw [dx]; simp only [aD] at h1 ⊢; exact ⟨_, _, rfl, hk, h1⟩, by rw [dx]; simp only [aD] at h2 ⊢; exact ⟨_, _, rfl, hv, h2⟩⟩
   · rw [if_neg aJ]
     simp only [aD, dx, List.cons.injEq] at h1 h2
     obtain ⟨_, _, ⟨rfl, rfl⟩, hy, h1⟩ := h1
     obtain ⟨_, _, ⟨rfl, rfl⟩, hx, h2⟩ := h2
     obtain ⟨l', h3, h4, h5⟩ := Dg hk hv ks vs l h1 h2
     exact ⟨f :: l', ((h3.cons f).trans (List.Perm.swap e f l)), by simp only [dx, aD]; exact ⟨_, _, rfl, hy, h4⟩, by simp only [dx, aD]; exact ⟨_, _, rfl, hx, h5⟩⟩
theorem tC {k v : AV} : ∀ (ks vs : List AV) (z : AV), z ∈ (fl k v ks vs).1 -> z = k \/ z ∈ ks
 | [], vs, z, h => by simp [fl] at h; exact .inl h
 | y :: ks, vs, z, h => by
   simp only [fl] at h
   split at h
   · simpa using h
   · split at h
     · simp at h; exact .inl h
     · rename_i x xs
       simp only [eA] at h ⊢
       rcases h with h | h
       · exact .inr (.inl h)
       · rcases tC ks xs z h with h | h
         · exact .inl h
         · exact .inr (.inr h)
theorem xi {k v : AV} : ∀ (ks vs : List AV), my ks -> (∀ y ∈ ks, gB k y = true \/ gB y k = true) -> my (fl k v ks vs).1
 | [], vs, h1, h2 => by simp [fl, my]
 | y :: ks, vs, h1, h2 => by
   unfold my at h1 ⊢
   rw [List.pairwise_cons] at h1
   simp only [fl]
   split
   · rename_i aJ
     rw [List.pairwise_cons, List.pairwise_cons]
     refine ⟨fun z hz => ?_, h1⟩
     rcases eA.1 hz with rfl | hz
     · exact aJ
     · exact EL aJ (h1.1 z hz)
   · rename_i aJ
     split
     · simp
     · rename_i x xs
       rw [List.pairwise_cons]
       refine ⟨fun z hz => ?_, xi ks xs h1.2 fun z hz => h2 z (by simp [hz])⟩
       rcases tC ks xs z hz with rfl | hz
       · rcases h2 y (by simp) with h | h
         · exact absurd h aJ
         · exact h
       · exact h1.1 z hz
theorem iv.push {es : Array MapEntry} {clock : Nat} (h : iv es clock) (k v : Value) : iv (es.push ⟨k, v, clock⟩) (clock + 1) := by
 obtain ⟨h1, h2⟩ := h
 refine ⟨?_, fun e he => ?_⟩
 · simp only [Array.toList_push, List.map_append, dx, gJ]
   rw [List.nodup_append]
   refine ⟨h1, by simp, fun a ha b hb => ?_⟩
   simp at hb
   subst hb
   obtain ⟨e, he, rfl⟩ := List.mem_map.1 ha
   exact Nat.ne_of_lt (h2 e he)
 · simp only [Array.toList_push, fH, ng] at he
   rcases he with he | rfl
   · have := h2 e he; omega
   · simp
theorem wQ {es : Array MapEntry} {j : Nat} {e : MapEntry} (hj : es.toList[j]? = some e) (f : MapEntry -> MapEntry) : (es.modify j f).toList = es.toList.set j (f e) := by
 apply List.ext_getElem?
 intro i
 simp only [Array.toList_modify, List.getElem?_modify, List.getElem?_set]
 by_cases fE : j = i
 · subst fE
   have aJ := (dy.1 hj).1
   simp only [if_true, hj, if_pos aJ]; rfl
 · simp only [if_neg fE]
   cases es.toList[i]? <;> rfl
theorem iv.modify {es su : Array MapEntry} {clock : Nat} (h : iv es clock) {j : Nat} {e e' : MapEntry} (hj : es.toList[j]? = some e) (hb : e'.born = e.born) (he : su.toList = es.toList.set j e') : iv su clock := by
 have hm : su.toList.map (·.born) = es.toList.map (·.born) := by
  rw [he, List.map_set, hb]
  apply List.ext_getElem?
  intro i
  rw [List.getElem?_set]
  split
  · rename_i fE
    subst fE
    rw [ko, hj]
    have aJ := (dy.1 hj).1
    simp at aJ ⊢; exact aJ
  · rfl
 refine ⟨by rw [hm]; exact h.1, fun x hx => ?_⟩
 have : x.born ∈ su.toList.map (·.born) := List.mem_map_of_mem hx
 rw [hm] at this
 obtain ⟨y, hy, hy2⟩ := List.mem_map.1 this
 rw [<- hy2]; exact h.2 y hy
theorem rl (h : aZ g U w) {t : TypeId} {m k x : AV} {vm vk vx : Value} (hm : aw g m vm) (hk : aw g k vk) (hx : aw g x vx) :
 av.Fits C g U (nZ C.P t m k x U) ((do Instr.mapUpdate t vm vk vx; pure Next.skip : Sem Next).run C.P w) := by
 unfold nZ
 split
 · rename_i fk e id ht
   split
   · rename_i ks vs CW
     obtain ⟨kt, hu, UP⟩ := vy ht
     obtain ⟨d, hd, CS⟩ : ∃ d, C.P.underlying kt = some d /\ ((fk = .i /\ ∃ q, d = .int q) \/ (fk = .s /\ d = .string)) := by
      rcases UP with ⟨rfl, q, hq⟩ | ⟨rfl, hq⟩
      · exact ⟨_, hq, .inl ⟨rfl, q, rfl⟩⟩
      · exact ⟨_, hq, .inr ⟨rfl, rfl⟩⟩
     have NF : (∃ q, d = .int q) \/ d = .string := CS.imp (·.2) (·.2)
     simp only [aw] at hm
     obtain ⟨r, hr, rfl⟩ := hm
     obtain ⟨r', es, clock, q1, q2, q3, qb, ⟨l, q4, q5, q6, q7⟩, q8⟩ := h.mp id _ CW
     rw [hr] at q1; cases q1
     have pd : (getObj r).run C.P w = .ok (.map es clock) w := by simp [getObj, Sem.run, q3]
     have Ir := run_checkKey (P := C.P) (w := w) (em := false) hd NF 9999 vk
     have tw : ∀ o, (setObj r o).run C.P w = .ok () { w with heap := w.heap.setIfInBounds r o } := fun o => by simp [setObj, Sem.run, q3]
     split
     · rename_i hf Fx
       rcases xO (P := C.P) hd CS hk q4 q5 q6 hf with ⟨_, ha, hn⟩ | ⟨i, _, _, he, _⟩
       · simp only [Instr.mapUpdate, bI, run_underlying hu, bY, pd, Ir, Instr.findKey, run_underlying hd, hn, ca, tw]
         obtain ⟨l', p1, p2, p3⟩ := Dg (e := ⟨vk, vx, clock⟩) hk hx ks vs l q6 q7
         refine ⟨undef, _, g, .inr ⟨rfl, rfl⟩, Gh.Le.refl g, h.JT CW (kv' := fl k x ks vs) hr q3 ⟨l', ?_, ?_, p2, p3⟩ (qb.push vk vx), by simp only [aw]; exact ⟨[], rfl, by simp [aD]⟩⟩
         · rw [Array.toList_push]
           exact (p1.trans (q4.cons _)).trans (List.perm_append_singleton _ _).symm
         · exact xi ks vs q5 fun y hy => NM (ha y hy)
       · cases he
     · rename_i i hf Fx
       rcases xO (P := C.P) hd CS hk q4 q5 q6 hf with ⟨he, _⟩ | ⟨i', j, e, he, UO, CV, It, PD, hn⟩
       · cases he
       · cases he
         have yT := hn 0
         rw [cq] at yT
         have aJ : j < es.size := by
          have := (dy.1 It).1
          simpa using this
         have aae : es[j]? = some e := by rw [<- iH]; exact It
         have X9 : Instr.sameBits 10000 e.key vk = true := by
          rcases CS with ⟨rfl, _⟩ | ⟨rfl, _⟩ <;> cases k <;> simp only [nV, bm] at Fx
          · simp only [aw] at hk PD; rw [hk, PD]; simp [Instr.sameBits]
          · simp only [aw] at hk PD; rw [hk, PD]; simp [Instr.sameBits, beq_toListBytes]
         have FC : (Instr.keyThatStays e.key vk).run C.P w = .ok vk w := by simp [Instr.keyThatStays, X9]
         have aal : ((es[j]?).map (·.key)).getD vk = e.key := by rw [aae]; rfl
         simp only [Instr.mapUpdate, bI, run_underlying hu, bY, pd, Ir, Instr.findKey, run_underlying hd, yT, ca, tw, aal, FC]
         have UX := wQ It (fun e => { e with key := vk, val := vx })
         refine ⟨undef, _, g, .inr ⟨rfl, rfl⟩, Gh.Le.refl g, h.JT CW (kv' := (ks, vs.set i x)) hr q3 ⟨l.set i { e with key := vk, val := vx }, ?_, q5, ?_, ?_⟩ (qb.modify (e' := { e with key := vk, val := vx }) It rfl UX), by simp only [aw]; exact ⟨[], rfl, by simp [aD]⟩⟩
         · rw [UX]; exact N1 q4 CV It _
         · rw [List.map_set]
           have := q6.set i hk
           have e1 : ks.set i k = ks := by
            apply List.ext_getElem?
            intro a
            rw [List.getElem?_set]
            split
            · rename_i ha; subst ha
              split
              · exact UO.symm
              · rename_i hn; exact absurd (dy.1 UO).1 hn
            · rfl
           rw [e1] at this; exact this
         · rw [List.map_set]; exact q7.set i hx
     · trivial
   · trivial
 · trivial
theorem zc {fk : FK} {k z : AV} {ok : Bool} : ∀ (ks vs : List AV) (s : Nat), ks.length = vs.length -> kg fk k z ok ks vs = (match jG fk k ks s with
 | none => .bad
 | some none => .val (if ok then .aO [z, .bool false] else z)
 | some (some i) => .val (if ok then .aO [vs.getD (i - s) z, .bool true] else vs.getD (i - s) z))
 | [], [], s, _ => by simp [kg, jG]
 | [], _ :: _, s, h => by simp at h
 | _ :: _, [], s, h => by simp at h
 | y :: ks, v :: vs, s, h => by
   simp only [kg, jG]
   cases hb : fz fk k y with
   | none => rfl
   | some b =>
     cases b
     · simp only [bm, if_false]
       rw [zc ks vs (s + 1) (by simpa using h)]
       cases hf : jG fk k ks (s + 1) with
       | none => rfl
       | some r =>
         cases r with
         | none => rfl
         | some i =>
           rcases tm hf with ⟨h1, _⟩ | ⟨i', h1, _⟩
           · cases h1
           · cases h1
             have e1 : s + 1 + i' - (s + 1) = i' := by omega
             have e2 : s + 1 + i' - s = i' + 1 := by omega
             simp only [e1, e2, List.getD_cons_succ]
     · simp only [if_true, Nat.sub_self, List.getD_cons_zero]
theorem Dr (h : aZ g U w) {t : TypeId} {m k : AV} {vm vk : Value} {ok : Bool} (hm : aw g m vm) (hk : aw g k vk) :
 av.Fits C g U (sM C.P t m k ok U) ((do let r <- Instr.lookup t vm vk ok; pure (Next.value r) : Sem Next).run C.P w) := by
 unfold sM
 split
 · rename_i fk e ks vs ht he
   split
   · rename_i z hz Fx
     obtain ⟨kt, hu, UP⟩ := vy ht
     obtain ⟨d, hd, CS⟩ : ∃ d, C.P.underlying kt = some d /\ ((fk = .i /\ ∃ q, d = .int q) \/ (fk = .s /\ d = .string)) := by
      rcases UP with ⟨rfl, q, hq⟩ | ⟨rfl, hq⟩
      · exact ⟨_, hq, .inl ⟨rfl, q, rfl⟩⟩
      · exact ⟨_, hq, .inr ⟨rfl, rfl⟩⟩
     have NF : (∃ q, d = .int q) \/ d = .string := CS.imp (·.2) (·.2)
     obtain ⟨i, vz, hi, qo, IQ⟩ : ∃ i vz, C.P.info? e = some i /\ i.zero = some vz /\ AO vz = z := by
      unfold zeroV at hz
      cases hi : C.P.info? e with
      | none => simp [hi] at hz
      | some i =>
        cases lz : i.zero with
        | none => simp [hi, lz] at hz
        | some vz => simp [hi, lz] at hz; exact ⟨i, vz, rfl, lz, hz⟩
     have P0 : aw g z vz := by rw [<- IQ]; exact zX vz
     obtain ⟨es, vg, l, hp, aaw, h1, h2⟩ : ∃ es : Array MapEntry, ((vm = .map none /\ es = #[]) \/ ∃ r clock, vm = .map (some r) /\ w.heap[r]? = some (Obj.map es clock)) /\ tc g ks vs es := by
      cases m <;> simp only [j6, reduceCtorEq, gq, jz] at he
      · obtain ⟨rfl, rfl⟩ := he
        simp only [aw] at hm; subst hm
        exact ⟨#[], .inl ⟨rfl, rfl⟩, [], List.Perm.refl _, by simp [my], by simp [aD], by simp [aD]⟩
      · simp only [aw] at hm
        obtain ⟨r, hr, rfl⟩ := hm
        obtain ⟨r', es, clock, q1, q2, q3, _, q4, _⟩ := h.mp _ _ he
        rw [hr] at q1; cases q1
        exact ⟨es, .inr ⟨r, clock, rfl, q3⟩, q4⟩
      · obtain ⟨rfl, rfl⟩ := he
        simp only [aw] at hm
        obtain ⟨r, es, clock, l, rfl, hr, q0, q1, q2, q3⟩ := hm
        exact ⟨es, .inr ⟨r, clock, rfl, (h.bE r es clock hr).1⟩, l, q0, q1, q2, q3⟩
     have hlen : ks.length = vs.length := by
      have a := h1.length
      have b := h2.length
      simp at a b; omega
     rw [zc ks vs 0 hlen]
     cases hf : jG fk k ks 0 with
     | none => trivial
     | some r =>
       have Ir := run_checkKey (P := C.P) (w := w) (em := es.isEmpty) hd NF 9999 vk
       have key := xO (P := C.P) hd CS hk hp aaw h1 hf
       have fin : ∀ q : Option (Nat × Value), Instr.findNow d vk es.toList 0 = some q -> (Instr.lookup t vm vk ok).run C.P w = (match q with
        | some (_, v) => .ok (if ok then .tuple #[v, .bool true] else v) w
        | none => .ok (if ok then .tuple #[vz, .bool false] else vz) w) := fun q hq => by
        rcases vg with ⟨rfl, rfl⟩ | ⟨r, clock, rfl, hh⟩
        · simp only [Instr.lookup, bI, run_underlying hu, bY, ca, Ir, Instr.findKey, run_underlying hd, hq]
          cases q with
          | none => simp only [ca, bY, bI, fg hi qo]
          | some p => rfl
        · have pd : (getObj r).run C.P w = .ok (Obj.map es clock) w := by simp [getObj, Sem.run, hh]
          simp only [Instr.lookup, bI, run_underlying hu, bY, ca, pd, Ir, Instr.findKey, run_underlying hd, hq]
          cases q with
          | none => simp only [ca, bY, bI, fg hi qo]
          | some p => rfl
       rcases key with ⟨rfl, _, hn⟩ | ⟨i, j, e, rfl, _, CV, _, _, hn⟩
       · simp only [bI, fin _ (hn 0), bY, ca]
         refine aS h ?_
         cases ok
         · exact P0
         · simp only [if_true, aw]
           exact ⟨[vz, .bool false], rfl, by simp only [aD]; exact ⟨_, _, rfl, P0, _, _, rfl, by simp only [aw], rfl⟩⟩
       · simp only [bI, fin _ (hn 0), bY, ca, Nat.sub_zero]
         have hv : aw g (vs.getD i z) e.val := by
          have aJ : i < vs.length := by
           have a := (dy.1 CV).1
           have b := h2.length
           simp at b; omega
          obtain ⟨v, hv, IM⟩ := h2.get (i := i) (x := vs[i]) (iY aJ)
          rw [ko, CV] at hv
          simp at hv
          subst hv
          have : vs.getD i z = vs[i] := by simp [rW, aJ]
          rw [this]; exact IM
         refine aS h ?_
         cases ok
         · exact hv
         · simp only [if_true, aw]
           exact ⟨[e.val, .bool true], rfl, by simp only [aD]; exact ⟨_, _, rfl, hv, _, _, rfl, by simp only [aw], rfl⟩⟩
   · trivial
 · trivial
theorem Hh (h : aZ g U w) : av.Fits C g U .BZ (.ok (.value (.map (some w.heap.size))) (w.alloc (.map #[] 0))) := by
 obtain ⟨b, g', h1, h2, h3, h4⟩ := h.qv (.map #[] 0) 0 0 (.mp [] []) fun g' hle hi hm => ⟨#[], 0, heap_alloc_new w _, ⟨by simp, by simp⟩, ⟨[], List.Perm.refl _, by simp [my], by simp [aD], by simp [aD]⟩, hm⟩
 exact ⟨_, _, g', b, rfl, h1, h2, h4, by simp only [NV.at, aw]; exact ⟨_, Gh.mH.2 ⟨_, h3, rfl⟩, rfl⟩⟩
end
end Go.Rip
namespace Go.Rip
open Go.RowKit
def aP (c a b : AV) : av :=
 match c with
 | .bool t => .val (if t = true then a else b)
 | _ => .bad
def wk (P : Program) (s f : Nat) : Option (Nat × Bool × Nat) :=
 match P.underlying s with
 | some (.struct fields) => match fields[f]? with
   | some x => match kY P x.type with
     | some (b, n) => some (x.offset, b, n)
     | none => none
   | none => none
 | _ => none
def u4 (P : Program) (s : TypeId) (x : AV) (f : Nat) : av :=
 match wk P s f, x with
 | some (o, true, n), .agg l => .cond (o + n <= l.length) (.val (.agg ((l.drop o).take n)))
 | some (o, false, _), .agg l => fT (l.drop o)
 | _, _ => .bad
def fM (P : Program) (f : AV) (args : List AV) : av :=
 match f with
 | .func (.func g) first cap => if dz P g = true then .enter g (first ++ args ++ cap) else .bad
 | .o9 o => .yield o args
 | _ => .bad
def DM (P : Program) (t : TypeId) (m : AV) : av :=
 match nY P t, m with
 | some _, .eL ks vs => .new .it none (.iter (ks.zip vs) none)
 | _, _ => .bad
def pJ : List (AV × AV) -> List ((AV × AV) × List (AV × AV))
 | [] => []
 | x :: xs => (x, xs) :: (pJ xs).map fun p => (p.1, x :: p.2)
def pI (i : AV) (U : St) : av :=
 match i with
 | .it o => match U.iter o with
   | some ([], _) => .val (.aO [.bool false])
   | some (x :: xs, _) => .ji o ((pJ (x :: xs)).map fun p => (.aO [.bool true, p.1.1, p.1.2], .iter p.2 (some p.1)))
   | none => .bad
 | _ => .bad
def mz (i : AV) (U : St) : av :=
 match i with
 | .it o => match U.iter o with
   | some (_, some kv) => .val (.aO [kv.1, kv.2])
   | _ => .bad
 | _ => .bad
def wg (P : Program) (t : TypeId) : Option AV :=
 match P.underlying t with
 | some (.interface _) => none
 | some _ => zeroV P t
 | none => none
def sb (P : Program) (x : AV) (t : TypeId) (ok : Bool) : av :=
 match wg P t, x with
 | some z, .iface u v => if u = t then .val (if ok then .aO [v, .bool true] else v) else if ok then .val (.aO [z, .bool false]) else .bad
 | some z, .cI => if ok then .val (.aO [z, .bool false]) else .bad
 | _, _ => .bad
def pF (P : Program) (t : TypeId) (mu : Bool) (l c : AV) : av :=
 match eg P t, l, c with
 | some (e, sz), .int _ l, .int _ c => match mV P e with
   | some z => .cond (0 <= l /\ l = c /\ c <= 65536) (if mu then .lT l.toNat sz e none (bN l.toNat z) else .kI l.toNat (bN l.toNat z) none ⟨l.toNat, e, sz⟩)
   | none => .bad
 | _, _, _ => .bad
def uW (P : Program) (t : TypeId) (x : AV) (U : St) : av :=
 match eg P t, x with
 | some (e, sz), .ms b off n gy _ => match U.box b, mV P e with
   | some l, some z => .cond (gy = sz /\ off + n * sz <= l.length) (.jD (.aO []) b (.box (aH l off (bN n z))))
   | _, _ => .bad
 | _, _ => .bad
def yK (P : Program) (t u : TypeId) : Option (TypeId × Nat × List AV) :=
 match P.underlying u with
 | some (.int _) => match eg P t with
   | some (e, sz) => match mV P e with
     | some z => some (e, sz, z)
     | none => none
   | none => none
 | _ => none
def BU (q : TypeId × Nat × List AV) (mu : Bool) (s y : AV) : av :=
 match s, y with
 | .ax, .int _ n => .cond (0 < n /\ n <= 65536) (if mu then .lT n.toNat q.2.1 q.1 none (bN n.toNat q.2.2) else .kI n.toNat (bN n.toNat q.2.2) none ⟨n.toNat, q.1, q.2.1⟩)
 | _, _ => .bad
def Cu (st : Option (TypeId × Nat)) (x : AV) : av := match st, x with
 | some _, .ax => .val (.int .i64 0)
 | _, _ => .bad
def we (P : Program) (t u : TypeId) (mu : Bool) (s y : AV) (U : St) : av :=
 match yK P t u with
 | some q => BU q mu s y
 | none => zQ P t u mu s y U
def wh (C : cr) (mu : Bool) (c : Call) (ρ : Env) (U : St) : av :=
 match c.callee, c.argTypes.toList, c.args.toList with
 | .value f, _, args => fM C.P (ρ.ev C f) (args.map (ρ.ev C))
 | .builtin .len, [t], [x] => Dp C.P t (ρ.ev C x) U
 | .builtin .append, [t, u], [s, y] => we C.P t u mu (ρ.ev C s) (ρ.ev C y) U
 | .builtin .cap, [t], [x] => Cu (eg C.P t) (ρ.ev C x)
 | .builtin .min, _, [x, y] => rT (ρ.ev C x) (ρ.ev C y)
 | .builtin .max, _, [x, y] => xV (ρ.ev C x) (ρ.ev C y)
 | .builtin .clear, [t], [x] => uW C.P t (ρ.ev C x) U
 | _, _, _ => .bad
def gH (C : cr) (mu : Bool) (o : Op) (ρ : Env) (U : St) : av :=
 match o with
 | .move x | .assign x => .val (ρ.ev C x)
 | .pick c a b => aP (ρ.ev C c) (ρ.ev C a) (ρ.ev C b)
 | .alloc t => Cj C.P t
 | .box _ x => dZ (ρ.ev C x)
 | .build t parts => Cq C.P t (jL C ρ parts)
 | .buildSlice t n parts => oM C.P t n mu (jL C ρ parts)
 | .insert t m k v | .mapUpdate t m k v => nZ C.P t (ρ.ev C m) (ρ.ev C k) (ρ.ev C v) U
 | .load t a => rh C.P t (ρ.ev C a) U
 | .store t a v => DY C.P t (ρ.ev C a) (ρ.ev C v) U
 | .nilCheck x => bz (ρ.ev C x)
 | .binOp op t x y _ => Cp C.P op t (isLit x || isLit y) (ρ.ev C x) (ρ.ev C y)
 | .unOp op _ x => fi op (ρ.ev C x)
 | .convert s d x => BS C.P s d (ρ.ev C x)
 | .makeInterface t x => tI C.P t (ρ.ev C x)
 | .makeFunc fn first cap => .val (.func fn (first.toList.map (ρ.ev C)) (cap.toList.map (ρ.ev C)))
 | .makeMap _ none => .BZ
 | .slice t x lo hi none => DT C.P t (ρ.ev C x) (lo.map (ρ.ev C)) (hi.map (ρ.ev C))
 | .fieldAddr s x f => tl C.P s (ρ.ev C x) f
 | .field s x f => u4 C.P s (ρ.ev C x) f
 | .indexAddr t x i => tB C.P t (ρ.ev C x) (ρ.ev C i)
 | .index t x i => yZ C.P t (ρ.ev C x) (ρ.ev C i)
 | .lookup t m k ok => sM C.P t (ρ.ev C m) (ρ.ev C k) ok U
 | .extract t i => aT (ρ.ev C t) i
 | .panic x => qA (ρ.ev C x)
 | .range t m => DM C.P t (ρ.ev C m)
 | .typeAssert x _ t ok => sb C.P (ρ.ev C x) t ok
 | .makeSlice t l c => pF C.P t mu (ρ.ev C l) (ρ.ev C c)
 | .next i false => pI (ρ.ev C i) U
 | .entry i => mz (ρ.ev C i) U
 | .call c => wh C mu c ρ U
 | _ => .bad
section
variable {C : cr} {g : Gh} {U : St} {w : World}
theorem z6 (h : aZ g U w) {s f : Nat} {x : AV} {v : Value} (hx : aw g x v) : av.Fits C g U (u4 C.P s x f) ((do let r <- Instr.field s v f; pure (Next.value r) : Sem Next).run C.P w) := by
 unfold u4
 have key : ∀ {o b n}, wk C.P s f = some (o, b, n) -> ∃ fs y i d, C.P.underlying s = some (.struct fs) /\ fs[f]? = some y /\ y.offset = o /\ C.P.info? y.type = some i /\ C.P.underlying y.type = some d /\ zO d = b /\ i.size = n := fun {o b n} hf => by
  unfold wk at hf
  split at hf
  · rename_i fs hu
    split at hf
    · rename_i y hy
      split at hf
      · rename_i b' n' hv
        simp only [gq, jz] at hf
        obtain ⟨rfl, rfl, rfl⟩ := hf
        obtain ⟨i, d, h1, h2, h3, h4⟩ := lN hv
        exact ⟨fs, y, i, d, hu, hy, rfl, h1, h2, h3, h4⟩
      · cases hf
    · cases hf
  · cases hf
 split
 · rename_i o n l hf
   obtain ⟨fs, y, i, d, hu, hy, rfl, hi, hd, ha, rfl⟩ := key hf
   intro hle
   simp only [aw] at hx
   obtain ⟨vs, rfl, h1, hr⟩ := hx
   simp only [Instr.field, bI, run_underlying hu, bY, hy, asAgg, ca, part, jl hd, ha, if_true, ef, dJ hi]
   refine aS h ?_
   simp only [aw]
   refine ⟨(vs.drop y.offset).take i.size, ?_, fun u hu => h1 u (List.mem_of_mem_drop (List.mem_of_mem_take hu)), (hr.drop _).take _⟩
   congr 1
   apply Array.ext'
   simp [List.extract_eq_take_drop]
 · rename_i o n l hf
   obtain ⟨fs, y, i, d, hu, hy, rfl, hi, hd, ha, rfl⟩ := key hf
   simp only [aw] at hx
   obtain ⟨vs, rfl, h1, hr⟩ := hx
   cases hl : l.drop y.offset with
   | nil => trivial
   | cons z zs =>
     have hz : l[y.offset]? = some z := by
      have := congrArg (fun l => l[0]?) hl
      simpa using this
     obtain ⟨u, mb, Vl⟩ := hr.get hz
     have e : vs.toArray[y.offset]? = some u := by simpa using mb
     simp only [Instr.field, bI, run_underlying hu, bY, hy, asAgg, ca, part, jl hd, ha, bm, if_false, ef, e]
     exact aS h Vl
 · trivial
theorem wj (hG : fJ C g) {ρ : Env} {a : Act} (hr : fj g ρ a.tmps) : ∀ l : List Operand, aD g (l.map (ρ.ev C)) (l.map a.eval)
 | [] => by simp [aD]
 | x :: l => by simp only [dx, aD]; exact ⟨_, _, rfl, p9 hG hr x, wj hG hr l⟩
theorem Np (h : aZ g U w) {f : AV} {vf : Value} {args : List AV} {vs : List Value} (hf : aw g f vf) (ha : aD g args vs) :
 av.Fits C g U (fM C.P f args) ((do let d <- Deferred.ofValue vf vs.toArray; invoke d.target d.args : Sem Next).run C.P w) := by
 unfold fM
 split
 · rename_i q first cap
   split
   · rename_i he
     simp only [aw] at hf
     obtain ⟨fs, cs, rfl, h1, h2⟩ := hf
     unfold dz at he
     split at he
     · rename_i fn hfn
       simp only [bP, Bool.not_eq_true'] at he
       have hb : fn.body.isNone = false := by cases hb : fn.body <;> simp_all
       simp only [Deferred.ofValue, invoke, callFunc, bI, ca, bY, run_program, hfn, he.2, hb, bm, if_false, ef]
       exact ⟨fs ++ vs ++ cs, w, by simp, h, (h1.append ha).append h2⟩
     · cases he
   · trivial
 · rename_i o
   simp only [aw] at hf
   obtain ⟨x, hx, rfl⟩ := hf
   simp only [Deferred.ofValue, invoke, bI, ca, bY]
   exact ⟨vs, x, w, w, hx, by simp, rfl, h, ha⟩
 · trivial
theorem yh (h : aZ g U w) {x : AV} {v : Value} {xt t : TypeId} {ok : Bool} (hx : aw g x v) :
 av.Fits C g U (sb C.P x t ok) ((do let r <- Instr.typeAssert v xt t ok; pure (Next.value r) : Sem Next).run C.P w) := by
 have key : ∀ {z : AV}, wg C.P t = some z -> ∃ d i vz, C.P.underlying t = some d /\ (∀ ms, d ≠ .interface ms) /\ C.P.info? t = some i /\ i.zero = some vz /\ aw g z vz := fun {z} hz => by
  unfold wg at hz
  split at hz
  · cases hz
  · rename_i d hn hd
    unfold zeroV at hz
    cases hi : C.P.info? t with
    | none => simp [hi] at hz
    | some i =>
      cases lz : i.zero with
      | none => simp [hi, lz] at hz
      | some vz => simp [hi, lz] at hz; exact ⟨d, i, vz, hd, fun ms e => hn ms e, rfl, lz, by rw [<- hz]; exact zX vz⟩
  · cases hz
 unfold sb
 split
 · rename_i z u y hz
   obtain ⟨d, i, vz, hd, hn, hi, lz, IQ⟩ := key hz
   simp only [aw] at hx
   obtain ⟨q, rfl, hq⟩ := hx
   have fy : (Instr.typeAssert (.iface u q) xt t ok).run C.P w = (if u = t then .ok (if ok then .tuple #[q, .bool true] else q) w else if ok then .ok (.tuple #[vz, .bool false]) w else (Instr.typeAssert (.iface u q) xt t ok).run C.P w) := by
    by_cases hu : u = t
    · rw [if_pos hu]
      cases d <;> first
       | exact absurd rfl (hn _)
       | (cases ok <;> simp [Instr.typeAssert, run_underlying hd, hu])
    · rw [if_neg hu]
      cases ok
      · rfl
      · cases d <;> first
         | exact absurd rfl (hn _)
         | simp [Instr.typeAssert, run_underlying hd, hu, fg hi lz]
   split
   · rename_i hu
     rw [bI, fy, if_pos hu]
     refine aS h ?_
     cases ok
     · exact hq
     · simp only [if_true, aw, aD]; exact ⟨_, rfl, _, _, rfl, hq, _, _, rfl, rfl, rfl⟩
   · rename_i hu
     split
     · rename_i cA
       rw [bI, fy, if_neg hu, if_pos cA]
       exact aS h (by simp only [aw, aD]; exact ⟨_, rfl, _, _, rfl, IQ, _, _, rfl, rfl, rfl⟩)
     · trivial
 · rename_i z hz
   obtain ⟨d, i, vz, hd, hn, hi, lz, IQ⟩ := key hz
   simp only [aw] at hx
   subst hx
   split
   · rename_i cA
     subst cA
     have fy : (Instr.typeAssert .nilIface xt t true).run C.P w = .ok (.tuple #[vz, .bool false]) w := by
      cases d <;> first
       | exact absurd rfl (hn _)
       | simp [Instr.typeAssert, run_underlying hd, fg hi lz]
     rw [bI, fy]
     exact aS h (by simp only [aw, aD]; exact ⟨_, rfl, _, _, rfl, IQ, _, _, rfl, rfl, rfl⟩)
   · trivial
 · trivial
theorem zf (h : aZ g U w) {t : TypeId} {mu : Bool} {l c : AV} {vl vc : Value} (hl : aw g l vl) (hc : aw g c vc) :
 av.Fits C g U (pF C.P t mu l c) ((do let x <- Instr.makeSlice t vl vc; pure (Next.value x) : Sem Next).run C.P w) := by
 unfold pF
 split
 · rename_i e sz kl l kc c hs
   split
   · rename_i z hz
     rintro ⟨h0, rfl, h1⟩
     obtain ⟨i, zv, hu, hi, lz, sG, dE, mY, hb, _⟩ := fY hs
     obtain ⟨i', WL, ik, Bc, hm⟩ := ky hz
     rw [hi] at ik; cases ik
     rw [lz] at Bc; cases Bc
     obtain ⟨h2, h3⟩ := dI (g := g) hm
     simp only [aw] at hl hc
     subst hl hc
     have Uw : (i.bytes : Int) * l <= 281474976710656 := by
      have e1 : (i.bytes : Int) * l <= 32768 * l := Int.mul_le_mul_of_nonneg_right (by omega) h0
      omega
     have fy := run_make (P := C.P) w t e i zv hu hi lz kl kc l l h0 (Int.le_refl _) Uw (by omega)
     have vn := pO (g := g) h2 l.toNat
     have UW : madeCells zv.cells (l.toNat * i.size) = (Array.range (l.toNat * zv.cells.size)).map (zv.cells[· % zv.cells.size]!) := by rw [dE, <- sG]; rfl
     have rO : ∀ u ∈ (madeCells zv.cells (l.toNat * i.size)).toList, u.oneCell' = true := fun u hu => by
      rw [UW] at hu
      simp only [Array.toList_map, List.mem_map] at hu
      obtain ⟨j, _, rfl⟩ := hu
      have aJ : j % zv.cells.size < zv.cells.size := Nat.mod_lt _ (by omega)
      rw [getElem!_pos zv.cells _ aJ]
      exact h3 _ (by simp)
     rw [<- UW] at vn
     have hlen : (madeCells zv.cells (l.toNat * i.size)).toList.length = l.toNat * sz := by rw [UW]; simp [sG]
     have Da : z.length = sz := by have := h2.length; simp at this; omega
     simp only [bI, fy, bY, ca]
     cases mu
     · have := mB (C := C) (del := none) (e := e) (sz := sz) (n := l.toNat) (c := l.toNat) h (vs := (madeCells zv.cells (l.toNat * i.size)).toList) (rest := []) vn rO (by simp) (by rw [je, Da]) (by simpa using hlen) (de _) (by unfold maxLen; omega)
       simpa using this
     · have := nR (C := C) (del := none) (e := e) (sz := sz) (n := l.toNat) (c := l.toNat) h (vs := (madeCells zv.cells (l.toNat * i.size)).toList) (rest := []) vn rO (by simp) (by simpa using hlen) (de _) (by unfold maxLen; omega)
       simpa using this
   · trivial
 · trivial
theorem Ep (h : aZ g U w) {t ty : TypeId} {x : AV} {v : Value} (hx : aw g x v) :
 av.Fits C g U (uW C.P t x U) ((do let r <- Builtin.clear_ #[t] ty #[v]; pure (Next.value r) : Sem Next).run C.P w) := by
 unfold uW
 split
 · rename_i e sz b off n gy e' hs
   split
   · rename_i l z hb hz
     rintro ⟨rfl, h1⟩
     obtain ⟨i, zv, hu, hi, lz, sG, dE, mY, _⟩ := fY hs
     obtain ⟨i', WL, ik, Bc, hm⟩ := ky hz
     rw [hi] at ik; cases ik
     rw [lz] at Bc; cases Bc
     obtain ⟨h2, h3⟩ := dI (g := g) hm
     simp only [aw] at hx
     obtain ⟨y, c, hy, rfl, _⟩ := hx
     have Da : z.length = gy := by have := h2.length; simp at this; omega
     have vn := pO (g := g) h2 n
     have Vk : Builtin.zeroCells zv.cells n = (Array.range (n * zv.cells.size)).map (zv.cells[· % zv.cells.size]!) := rfl
     obtain ⟨w', eY, dL⟩ := sS (C := C) (off := off) h hb hy vn (jH h3 n (by omega)) (by rw [je, Da]; exact h1)
     rw [<- Vk] at eY
     by_cases hn : n = 0
     · subst hn
       have e0 : U.bW b (aH l off (bN 0 z)) = U.bW b l := by simp [aH, bN]
       simp only [Builtin.clear_, bI, ca, bY]
       simp [run_underlying hu]
       refine ⟨_, w, g, .inl rfl, Gh.Le.refl g, ?_, by simp only [aw]; exact ⟨[], rfl, by simp [aD]⟩⟩
       show aZ g (U.bW b (aH l off (bN 0 z))) w
       rw [e0]; exact h.Yl hb
     · have hz2 := fg (P := C.P) hi lz w
       have Ux : (Builtin.clear_ #[t] ty #[.slice (some ⟨y.aG, off, none⟩) n c]).run C.P w = .ok (.tuple #[]) w' := by
        simp [Builtin.clear_, run_underlying hu, hz2, eY, hn]
       simp only [bI, Ux, bY, ca]
       exact ⟨_, w', g, .inl rfl, Gh.Le.refl g, dL, by simp only [aw]; exact ⟨[], rfl, by simp [aD]⟩⟩
   · trivial
 · trivial
theorem xC : ∀ {ks vs : List AV}, ks.length = vs.length -> (ks.zip vs).map (·.1) = ks
 | [], [], _ => rfl
 | [], _ :: _, h => by simp at h
 | _ :: _, [], h => by simp at h
 | k :: ks, v :: vs, h => by simp only [List.zip_cons_cons, dx]; rw [xC (by simpa using h)]
theorem xD : ∀ {ks vs : List AV}, ks.length = vs.length -> (ks.zip vs).map (·.2) = vs
 | [], [], _ => rfl
 | [], _ :: _, h => by simp at h
 | _ :: _, [], h => by simp at h
 | k :: ks, v :: vs, h => by simp only [List.zip_cons_cons, dx]; rw [xD (by simpa using h)]
theorem EV (h : aZ g U w) {t : TypeId} {m : AV} {v : Value} (hm : aw g m v) : av.Fits C g U (DM C.P t m) ((do let x <- Instr.range t v; pure (Next.value x) : Sem Next).run C.P w) := by
 unfold DM
 split
 · rename_i p ks vs ht
   obtain ⟨fk, e⟩ := p
   obtain ⟨kt, hu, _⟩ := vy ht
   simp only [aw] at hm
   obtain ⟨r, es, clock, l, rfl, hr, hp, hs, h1, h2⟩ := hm
   obtain ⟨q1, q2⟩ := h.bE r es clock hr
   have hlen : ks.length = vs.length := by
    have a := h1.length
    have b := h2.length
    simp at a b; omega
   have pd : (getObj r).run C.P w = .ok (.map es clock) w := by simp [getObj, Sem.run, q1]
   obtain ⟨b, g', f1, f2, f3, f4⟩ := h.qv (.mapIter (some r) clock #[] clock) 0 0 (.iter (ks.zip vs) none) fun g' hle hi IC =>
    ⟨r, es, clock, #[], heap_alloc_new w _, hle.bE _ _ hr, ⟨l, by
      have : (es.toList.filter fun e => !(#[] : Array Nat).contains e.born) = es.toList := by simp
      rw [this]; exact hp, by rw [xC hlen]; exact h1.mono hle, by rw [xD hlen]; exact h2.mono hle⟩, trivial⟩
   simp only [Instr.range, bI, run_underlying hu, bY, pd, ca, run_newObj]
   exact ⟨_, _, g', b, rfl, f1, f2, f4, by simp only [NV.at, aw]; exact ⟨_, f3, rfl⟩⟩
 · trivial
theorem Bv : ∀ {l : List (AV × AV)} {i : Nat} {x : AV × AV}, l[i]? = some x -> (x, l.eraseIdx i) ∈ pJ l
 | [], i, x, h => by simp at h
 | y :: l, 0, x, h => by simp at h; subst h; simp [pJ]
 | y :: l, i + 1, x, h => by
   simp only [List.getElem?_cons_succ] at h
   simp only [pJ, List.eraseIdx_cons_succ, eA, List.mem_map]
   exact .inr ⟨_, Bv h, rfl⟩
theorem aD.eraseIdx : ∀ {l : List AV} {vs : List Value} (i : Nat), aD g l vs -> aD g (l.eraseIdx i) (vs.eraseIdx i)
 | [], _, _, h => by simp only [aD] at h; subst h; simp [aD]
 | y :: ys, _, 0, h => by
   simp only [aD] at h
   obtain ⟨v, vs, rfl, h1, h2⟩ := h
   simpa using h2
 | y :: ys, _, i + 1, h => by
   simp only [aD] at h
   obtain ⟨v, vs, rfl, h1, h2⟩ := h
   simp only [List.eraseIdx_cons_succ, aD]
   exact ⟨v, _, rfl, h1, aD.eraseIdx i h2⟩
theorem kH {α β : Type} (f : α -> β) : ∀ (l : List α) (i : Nat), (l.eraseIdx i).map f = (l.map f).eraseIdx i
 | [], i => by simp
 | x :: l, 0 => by simp
 | x :: l, i + 1 => by simp [kH f l i]
theorem BN {α : Type} {l m : List α} (h : l.Perm m) {i j : Nat} {e : α} (hi : l[i]? = some e) (hj : m[j]? = some e) : (l.eraseIdx i).Perm (m.eraseIdx j) := by
 obtain ⟨h1, h2⟩ := dy.1 hi
 obtain ⟨h3, h4⟩ := dy.1 hj
 have el : l = l.take i ++ e :: l.drop (i + 1) := by
  conv => lhs; rw [<- List.take_append_drop i l, gp h1, h2]
 have em : m = m.take j ++ e :: m.drop (j + 1) := by
  conv => lhs; rw [<- List.take_append_drop j m, gp h3, h4]
 have hp : (l.take i ++ e :: l.drop (i + 1)).Perm (m.take j ++ e :: m.drop (j + 1)) := by rw [<- el, <- em]; exact h
 have h5 := (List.perm_middle.symm.trans hp).trans List.perm_middle
 rw [List.eraseIdx_eq_take_drop_succ, List.eraseIdx_eq_take_drop_succ]
 exact List.Perm.cons_inv h5
theorem Ez {es : List MapEntry} (hn : (es.map (·.born)).Nodup) {seen : Array Nat} {e : MapEntry} {j : Nat} (hj : (es.filter fun x => !seen.contains x.born)[j]? = some e) :
 (es.filter fun x => !(seen.push e.born).contains x.born) = (es.filter fun x => !seen.contains x.born).eraseIdx j := by
 have e1 : (es.filter fun x => !(seen.push e.born).contains x.born) = (es.filter fun x => !seen.contains x.born).filter fun x => x.born != e.born := by
  rw [List.filter_filter]
  apply List.filter_congr
  intro x _
  simp only [Array.contains_push, Bool.not_or]
  rw [Bool.and_comm]
  congr 1
 rw [e1]
 have Fz : ((es.filter fun x => !seen.contains x.born).map (·.born)).Nodup := List.Nodup.sublist (List.Sublist.map _ List.filter_sublist) hn
 generalize (es.filter fun x => !seen.contains x.born) = l at hj Fz
 clear e1 hn es
 induction l generalizing j with
 | nil => simp at hj
 | cons y l ih =>
   simp only [dx, List.nodup_cons] at Fz
   cases j with
   | zero =>
     simp at hj; subst hj
     simp only [List.filter_cons, bne_self_eq_false, bm, if_false, List.eraseIdx_zero, List.tail_cons]
     rw [List.filter_eq_self]
     intro x hx
     simp only [bne_iff_ne, ne_eq]
     intro he
     exact Fz.1 (he ▸ List.mem_map_of_mem hx)
   | succ j =>
     simp only [List.getElem?_cons_succ] at hj
     have cm : y.born ≠ e.born := fun he => Fz.1 (he ▸ List.mem_map_of_mem (fB hj))
     simp only [List.filter_cons, bne_iff_ne, ne_eq, cm, not_false_eq_true, if_true, List.eraseIdx_cons_succ]
     rw [ih hj Fz.2]
theorem Hi (h : aZ g U w) {i : AV} {v : Value} {ty : TypeId} (hi : aw g i v) : av.Fits C g U (pI i U) ((do let x <- Instr.next v false ty; pure (Next.value x) : Sem Next).run C.P w) := by
 unfold pI
 split
 · rename_i o
   simp only [aw] at hi
   obtain ⟨p, hp, rfl⟩ := hi
   split
   · rename_i cur hit
     obtain ⟨p', k1, k2, m, es, clock, seen, k3, k4, ⟨l, k5, k6, k7⟩, k8⟩ := h.live o _ (St.tF.1 hit)
     rw [hp] at k1; cases k1
     obtain ⟨q1, q2⟩ := h.bE m es clock k4
     simp only [gJ, aD, List.map_eq_nil_iff] at k6
     subst k6
     have Ae := k5.symm.eq_nil
     have Iv : (getObj p.aG).run C.P w = .ok (.mapIter (some m) clock seen clock) w := by simp [getObj, Sem.run, k3]
     have Iw : (getObj m).run C.P w = .ok (.map es clock) w := by simp [getObj, Sem.run, q1]
     have GI : (!seen.isEmpty && !es.isEmpty && es.all (fun e => decide (e.born >= clock))) = false := by
      cases he : es.isEmpty
      · have : es.all (fun e => decide (e.born >= clock)) = false := by
         rw [Array.all_eq_false]
         have h0 : 0 < es.size := by
          rcases Nat.eq_zero_or_pos es.size with h0 | h0
          · simp [Array.isEmpty, h0] at he
          · exact h0
         refine ⟨0, h0, ?_⟩
         have := q2.2 es[0] (by simp)
         simp; omega
        simp [this]
      · simp
     have X1 : (es.filter fun e => !seen.contains e.born) = #[] := by
      apply Array.ext'
      simpa using Ae
     simp only [Instr.next, bI, Iv, bY, Iw, GI, ef, bm, if_false, ca, X1]
     have e2 : (#[] : Array MapEntry).filter (fun e => decide (e.born < clock)) = #[] := by simp
     have e3 : (#[] : Array MapEntry).filter (fun e => decide (e.born >= clock)) = #[] := by simp
     simp [choose, Sem.run, Question.forced, Result.andThen]
     exact aS h (by simp only [aw, aD]; exact ⟨[.bool false], rfl, _, _, rfl, rfl, rfl⟩)
   · rename_i x xs cur hit
     obtain ⟨p', k1, k2, m, es, clock, seen, k3, k4, ⟨l, k5, k6, k7⟩, k8⟩ := h.live o _ (St.tF.1 hit)
     rw [hp] at k1; cases k1
     obtain ⟨q1, q2⟩ := h.bE m es clock k4
     have Iv : (getObj p.aG).run C.P w = .ok (.mapIter (some m) clock seen clock) w := by simp [getObj, Sem.run, k3]
     have GI : (!seen.isEmpty && !es.isEmpty && es.all (fun e => decide (e.born >= clock))) = false := by
      cases he : es.isEmpty
      · have : es.all (fun e => decide (e.born >= clock)) = false := by
         rw [Array.all_eq_false]
         have h0 : 0 < es.size := by
          rcases Nat.eq_zero_or_pos es.size with h0 | h0
          · simp [Array.isEmpty, h0] at he
          · exact h0
         refine ⟨0, h0, ?_⟩
         have := q2.2 es[0] (by simp)
         simp; omega
        simp [this]
      · simp
     generalize hL : (es.filter fun e => !seen.contains e.born) = L
     have Fq : (es.toList.filter fun e => !seen.contains e.born) = L.toList := by rw [<- hL]; simp
     rw [Fq] at k5
     have ke : ∀ e ∈ L.toList, e ∈ es.toList := fun e he => by rw [<- Fq] at he; exact (List.mem_filter.1 he).1
     have hlen : l.length = xs.length + 1 := by have := k6.length; simpa using this
     have Il : L.size = xs.length + 1 := by rw [<- hlen, k5.length_eq]; simp
     have hold : L.filter (fun e => decide (e.born < clock)) = L := by
      apply Array.ext'
      rw [Array.toList_filter, List.filter_eq_self]
      intro e he
      have := q2.2 e (ke e he)
      simpa using this
     have mX : L.filter (fun e => decide (e.born >= clock)) = #[] := by
      apply Array.ext'
      rw [Array.toList_filter]
      apply List.filter_eq_nil_iff.2
      intro e he
      have := q2.2 e (ke e he)
      simp; omega
     have hem : L.isEmpty = false := by simp [Array.isEmpty, Il]
     have key : ∀ (w1 : World) (c : Nat), w1.heap = w.heap -> w1.os = w.os -> w1.tape = w.tape -> w1.output = w.output -> c < L.size ->
      ∀ e, L[c]? = some e -> ∃ u w' g' v x', (setObj p.aG (.mapIter (some m) clock (seen.push e.born) clock)).run C.P w1 = .ok () w' /\ u = Value.tuple #[.bool true, e.key, e.val] /\
       (v, x') ∈ (pJ (x :: xs)).map (fun p => (AV.aO [.bool true, p.1.1, p.1.2], Live.iter p.2 (some p.1))) /\ Gh.Le g g' /\ aZ g' (U.set o x') w' /\ aw g' v u := fun w1 c e1 e2 e3 e4 hc e he => by
      have jC : L.toList[c]? = some e := by rw [iH]; exact he
      obtain ⟨a, ha⟩ := List.getElem?_of_mem (k5.mem_iff.2 (fB jC))
      have CM : a < (x :: xs).length := by
       have := (dy.1 ha).1
       rw [hlen] at this; simpa using this
      have PZ : (x :: xs)[a]? = some ((x :: xs)[a]) := iY CM
      generalize (x :: xs)[a] = kv at PZ
      obtain ⟨vk, jM, nB⟩ := k6.get (i := a) (x := kv.1) (by rw [ko, PZ]; rfl)
      obtain ⟨vv, Ve, fp⟩ := k7.get (i := a) (x := kv.2) (by rw [ko, PZ]; rfl)
      rw [ko, ha] at jM Ve
      simp at jM Ve
      subst jM Ve
      have tw : (setObj p.aG (.mapIter (some m) clock (seen.push e.born) clock)).run C.P w1 = .ok () { w1 with heap := w1.heap.setIfInBounds p.aG (.mapIter (some m) clock (seen.push e.born) clock) } := by
       simp [setObj, Sem.run, e1, k3]
      have aJ := (iE.1 k3).1
      refine ⟨_, _, g, _, _, tw, rfl, List.mem_map.2 ⟨_, Bv PZ, rfl⟩, Gh.Le.refl g, ?_, ?_⟩
      · refine h.rewrite (St.tF.1 hit) hp ⟨e2, e3, e4, by simp [e1]⟩ (fun k hk _ => by simp only [e1]; exact Array.getElem?_setIfInBounds_ne (Ne.symm hk)) (fun o => ?_) ?_ ?_
        · cases ei : g.bO p.aG o with
          | none => rfl
          | some u => have := (h.bO _ _ _ ei).1; simp [World.cell?, k3] at this
        · cases ei : g.bE p.aG with
          | none => rfl
          | some u => have := (h.bE _ _ _ ei).1; rw [k3] at this; cases this
        · refine ⟨m, es, clock, seen.push e.born, by simp [e1, aJ], k4, ⟨l.eraseIdx a, ?_, ?_, ?_⟩, e, ?_, by simp, nB, fp⟩
          · have wZ : (es.toList.filter fun e => !seen.contains e.born)[c]? = some e := by rw [Fq]; exact jC
            rw [Ez q2.1 wZ, Fq]
            exact BN k5 ha jC
          · rw [kH, kH]; exact k6.eraseIdx a
          · rw [kH, kH]; exact k7.eraseIdx a
          · exact ke e (fB jC)
      · simp only [aw, aD]
        exact ⟨_, rfl, _, _, rfl, rfl, _, _, rfl, nB, _, _, rfl, fp, rfl⟩
     have CX : ∀ (n : Nat) (w1 : World), (choose (.mapNext L.size)).run C.P w = .ok n w1 -> w1.heap = w.heap -> w1.os = w.os -> w1.tape = w.tape -> w1.output = w.output -> n < L.size ->
      av.Fits C g U (.ji o ((pJ (x :: xs)).map fun p => (.aO [.bool true, p.1.1, p.1.2], .iter p.2 (some p.1)))) ((do let x <- Instr.next (.pointer (some ⟨p.aG, 0, none⟩)) false ty; pure (Next.value x) : Sem Next).run C.P w) := fun n w1 hch e1 e2 e3 e4 hn => by
      have Iw : (getObj m).run C.P w = .ok (.map es clock) w := by simp [getObj, Sem.run, q1]
      have Up : L[n]? = some L[n] := by simp [hn]
      generalize L[n] = e at Up
      obtain ⟨u, w', g', v, x', r1, r2, r3, r4, r5, r6⟩ := key w1 n e1 e2 e3 e4 hn e Up
      have XT : ((#[] : Array (Option MapEntry)) ++ (L ++ #[]).map some).size = L.size := by simp
      have hcn : ((#[] : Array (Option MapEntry)) ++ (L ++ #[]).map some)[n]? = some (some e) := by simp [Up]
      simp only [Instr.next, bI, Iv, bY, Iw, GI, ef, bm, if_false, ca, hL, hold, mX, hem, XT, hch, hcn, r1]
      exact ⟨_, w', g', v, x', rfl, r3, r4, r5, by rw [<- r2]; exact r6⟩
     by_cases hf : L.size <= 1
     · refine CX 0 w ?_ rfl rfl rfl rfl (by omega)
       simp [choose, Sem.run, Question.forced, hf]
     · refine CX (w.tape w.drawn (.mapNext L.size) % L.size) w.drew ?_ rfl rfl rfl rfl (Nat.mod_lt _ (by omega))
       have hfq : Question.forced (.mapNext L.size) = false := by simp only [Question.forced, decide_eq_false_iff_not]; exact hf
       simp only [choose, Sem.run, hfq, bm, if_false, Question.cut]
       rfl
   · trivial
 · trivial
theorem Eu (h : aZ g U w) {i : AV} {v : Value} (hi : aw g i v) : av.Fits C g U (mz i U) ((do let x <- Instr.entry v; pure (Next.value x) : Sem Next).run C.P w) := by
 unfold mz
 split
 · rename_i o
   simp only [aw] at hi
   obtain ⟨p, hp, rfl⟩ := hi
   split
   · rename_i rest kv hit
     obtain ⟨p', k1, k2, m, es, clock, seen, k3, k4, _, e, k5, k6, k7, k8⟩ := h.live o _ (St.tF.1 hit)
     rw [hp] at k1; cases k1
     obtain ⟨q1, q2⟩ := h.bE m es clock k4
     have Iv : (getObj p.aG).run C.P w = .ok (.mapIter (some m) clock seen clock) w := by simp [getObj, Sem.run, k3]
     have Iw : (getObj m).run C.P w = .ok (.map es clock) w := by simp [getObj, Sem.run, q1]
     have GL : es.find? (fun x => x.born == e.born) = some e := by
      rw [<- Array.find?_toList]
      have hn := q2.1
      generalize es.toList = l at k5 hn
      induction l with
      | nil => simp at k5
      | cons y l ih =>
        simp only [dx, List.nodup_cons] at hn
        rw [List.find?_cons]
        rcases eA.1 k5 with rfl | hm
        · simp
        · have : (y.born == e.born) = false := by
           simp only [beq_eq_false_iff_ne, ne_eq]
           intro he
           exact hn.1 (he ▸ List.mem_map_of_mem hm)
          rw [this]
          exact ih hm hn.2
     simp only [Instr.entry, bI, Iv, bY, k6, Iw, bne_self_eq_false, bm, if_false, ef, ca, GL]
     exact aS h (by simp only [aw, aD]; exact ⟨_, rfl, _, _, rfl, k7, _, _, rfl, k8, rfl⟩)
   · trivial
 · trivial
theorem wT (hG : fJ C g) {ρ : Env} {a : Act} (hr : fj g ρ a.tmps) (parts : Array (Nat × Operand)) :
 (parts.map fun (i, x) => (i, a.eval x)).size = (jL C ρ parts).length /\ ∀ (i : Nat) (p : Nat × AV) (q : Nat × Value), (jL C ρ parts)[i]? = some p -> (parts.map fun (i, x) => (i, a.eval x))[i]? = some q -> p.1 = q.1 /\ aw g p.2 q.2 := by
 refine ⟨by simp [jL], fun i p q h1 h2 => ?_⟩
 simp only [jL, ko, iH, mv] at h1
 obtain ⟨y, hy, rfl⟩ := h1
 simp only [Array.getElem?_map, hy, Option.map_some, gq] at h2
 subst h2
 exact ⟨rfl, p9 hG hr _⟩
theorem FY (hG : fJ C g) {ρ : Env} {a : Act} (hr : fj g ρ a.tmps) (x : Option Operand) : match x.map (ρ.ev C), x.map a.eval with | none, none => True | some x, some u => aw g x u | _, _ => False := by
 cases x with
 | none => trivial
 | some x => exact p9 hG hr x
theorem zo {P : Program} {w : World} {t u ty e : TypeId} {i : TypeInfo} {z : Value} {k k' : IntKind} (ht : P.underlying t = some (.slice e)) (hu : P.underlying u = some (.int k')) (hi : P.info? e = some i) (hz : i.zero = some z) (yN : i.bytes <= 32768) (hp : 0 < i.size)
 {n : Nat} (h0 : 0 < n) (hn : n <= 65536) :
 (Builtin.append_ #[t, u] ty #[.slice none 0 0, .int k (n : Int)]).run P w =
   .ok (.slice (some ⟨w.heap.size, 0, none⟩) n (grownCap w n 0 e))
    (w.drew.alloc (.cells (Builtin.zeroCells z.cells n ++ Builtin.zeroCells z.cells (grownCap w n 0 e - n)) e)) := by
 have Yb : IntKind.i64.wrap (n : Int) = n := uo ⟨by omega, by omega⟩
 have Nx : ¬ (9223372036854775807 < (n : Int)) := by omega
 have ij : n * i.bytes <= 140737488355328 := Nat.le_trans (Nat.mul_le_mul hn yN) (by omega)
 have AT := growslice_fits (old := 0) (need := n) (bytes := i.bytes) (by omega) ij
 have Nw : ¬ (281474976710656 < Builtin.nextslicecap n 0 * i.bytes) := by omega
 have gY : ¬ ((281474976710656 : Int) < (n : Int) * (i.bytes : Int)) := by
  have : (n : Int) * (i.bytes : Int) = ((n * i.bytes : Nat) : Int) := by simp
  omega
 have hns : ¬ (n = 0 \/ i.size = 0) := by omega
 have aan : ¬ ((n : Int) < 0) := by omega
 simp [Builtin.append_, run_underlying ht, run_underlying hu, sizeOf, typeInfo, zeroValue, hi, hz, Yb, Nx, Nw, gY, hns, aan, Question.forced, newRow, grownCap, asInt, asIntOf, Builtin.firstCells]
 have e1 : n ≠ 0 := by omega
 have e2 : n * i.size ≠ 0 := Nat.mul_ne_zero e1 (by omega)
 rw [if_neg e1, if_neg e2]
theorem GF {P : Program} {t u : TypeId} {q : TypeId × Nat × List AV} (h : yK P t u = some q) : ∃ k, P.underlying u = some (.int k) /\ eg P t = some (q.1, q.2.1) /\ mV P q.1 = some q.2.2 := by
 unfold yK at h
 split at h
 · rename_i k hu
   split at h
   · rename_i e sz hs
     split at h
     · rename_i z hz
       cases h
       exact ⟨k, hu, hs, hz⟩
     · cases h
   · cases h
 · cases h
theorem GD (h : aZ g U w) {t u ty : TypeId} {mu : Bool} {q : TypeId × Nat × List AV} (hq : yK C.P t u = some q) {s y : AV} {v v2 : Value} (hs : aw g s v) (hy : aw g y v2) :
 av.Fits C g U (BU q mu s y) ((do let r <- Builtin.append_ #[t, u] ty #[v, v2]; pure (Next.value r) : Sem Next).run C.P w) := by
 obtain ⟨k', hu, nD, hz⟩ := GF hq
 unfold BU
 split
 · rename_i k n
   rintro ⟨h0, h1⟩
   obtain ⟨i, zv, ht, hi, lz, sG, dE, mY, yN, Zz⟩ := fY nD
   obtain ⟨i', WL, ik, Bc, hm⟩ := ky hz
   rw [hi] at ik; cases ik
   rw [lz] at Bc; cases Bc
   obtain ⟨h2, h3⟩ := dI (g := g) hm
   simp only [aw] at hs hy
   subst hs hy
   obtain ⟨m, rfl⟩ : ∃ m : Nat, n = m := ⟨n.toNat, by omega⟩
   simp only [dC]
   have gn := grownCap_ge w m 0 q.1
   have hle := grownCap_le_maxLen w m 0 q.1 (by unfold maxLen; omega)
   rw [bI, zo (k := k) ht hu hi lz yN (by omega) (by omega) (by omega)]
   have dL := h.grow (iw w)
   have vn := pO (g := g) h2 m
   have Da : q.2.2.length = i.size := by have := h2.length; simp at this; omega
   have rO := jH h3 m (by omega)
   have PQ := jH h3 (grownCap w m 0 q.1 - m) (by omega)
   have hlen : (Builtin.zeroCells zv.cells m).toList.length + (Builtin.zeroCells zv.cells (grownCap w m 0 q.1 - m)).toList.length = grownCap w m 0 q.1 * q.2.1 := by
    rw [ph, ph, size_zeroCells, size_zeroCells, sG, <- Nat.add_mul, <- dE]
    congr 1; omega
   have ew : Builtin.zeroCells zv.cells m ++ Builtin.zeroCells zv.cells (grownCap w m 0 q.1 - m) = ((Builtin.zeroCells zv.cells m).toList ++ (Builtin.zeroCells zv.cells (grownCap w m 0 q.1 - m)).toList).toArray := by simp
   rw [ew]
   simp only [bY, ca]
   cases mu
   · exact mB dL vn rO PQ (by rw [je, Da, dE]) hlen gn hle
   · exact nR dL vn rO PQ hlen gn hle
 · trivial
theorem HT (h : aZ g U w) {t ty : TypeId} {x : AV} {v : Value} (hx : aw g x v) :
 av.Fits C g U (Cu (eg C.P t) x) ((do let r <- Builtin.cap_ #[t] ty #[v]; pure (Next.value r) : Sem Next).run C.P w) := by
 unfold Cu
 split
 · rename_i q hq
   obtain ⟨e, sz⟩ := q
   obtain ⟨i, z, ht, _⟩ := fY hq
   simp only [aw] at hx
   subst hx
   have : (Builtin.cap_ #[t] ty #[.slice none 0 0]).run C.P w = .ok (.int .i64 0) w := by simp [Builtin.cap_, run_underlying ht]; rfl
   rw [bI, this]
   exact aS h (by simp only [aw])
 · trivial
theorem Cm (h : aZ g U w) {t u ty : TypeId} {mu : Bool} {s y : AV} {v v2 : Value} (hs : aw g s v) (hy : aw g y v2) :
 av.Fits C g U (we C.P t u mu s y U) ((do let r <- Builtin.append_ #[t, u] ty #[v, v2]; pure (Next.value r) : Sem Next).run C.P w) := by
 unfold we
 split
 · rename_i q hq
   exact GD h hq hs hy
 · exact Cl h hs hy
theorem Gn (h : aZ g U w) (hG : fJ C g) {ρ : Env} {a : Act} (hr : fj g ρ a.tmps) (mu : Bool) (c : Call) (ty : TypeId) :
 av.Fits C g U (wh C mu c ρ U) ((do let d <- resolve a.eval c ty; invoke d.target d.args : Sem Next).run C.P w) := by
 obtain ⟨callee, ⟨args⟩, ⟨argTypes⟩⟩ := c
 have e := fun x => p9 hG hr x
 have fin : av.Fits C g U (match callee, argTypes, args with
  | .value f, _, args => fM C.P (ρ.ev C f) (args.map (ρ.ev C))
  | .builtin .len, [t], [x] => Dp C.P t (ρ.ev C x) U
  | .builtin .append, [t, u], [s, y] => we C.P t u mu (ρ.ev C s) (ρ.ev C y) U
  | .builtin .cap, [t], [x] => Cu (eg C.P t) (ρ.ev C x)
  | .builtin .min, _, [x, y] => rT (ρ.ev C x) (ρ.ev C y)
  | .builtin .max, _, [x, y] => xV (ρ.ev C x) (ρ.ev C y)
  | .builtin .clear, [t], [x] => uW C.P t (ρ.ev C x) U
  | _, _, _ => .bad) ((do let d <- resolve a.eval ⟨callee, ⟨args⟩, ⟨argTypes⟩⟩ ty; invoke d.target d.args : Sem Next).run C.P w) := by
  split
  · rename_i f
    have := Np (C := C) h (e f) (wj hG hr args)
    have e2 : (args.map a.eval).toArray = (⟨args⟩ : Array Operand).map a.eval := by simp
    rw [e2] at this
    exact this
  · rename_i t x
    have := Jh (C := C) (ty := ty) h (t := t) (e x)
    simpa only [resolve, invoke, builtin, bI, ca, bY, List.map_toArray, dx, gJ] using this
  · rename_i t u s y
    have := Cm (C := C) (ty := ty) (mu := mu) h (t := t) (u := u) (e s) (e y)
    simpa only [resolve, invoke, builtin, bI, ca, bY, List.map_toArray, dx, gJ] using this
  · rename_i t x
    have := HT (C := C) (ty := ty) h (t := t) (e x)
    simpa only [resolve, invoke, builtin, bI, ca, bY, List.map_toArray, dx, gJ] using this
  · rename_i x y
    have := Jo (C := C) (ty := ty) (ts := ⟨argTypes⟩) h (e x) (e y)
    simpa only [resolve, invoke, builtin, bI, ca, bY, List.map_toArray, dx, gJ] using this
  · rename_i x y
    have := Jn (C := C) (ty := ty) (ts := ⟨argTypes⟩) h (e x) (e y)
    simpa only [resolve, invoke, builtin, bI, ca, bY, List.map_toArray, dx, gJ] using this
  · rename_i t x
    have := Ep (C := C) (ty := ty) h (t := t) (e x)
    simpa only [resolve, invoke, builtin, bI, ca, bY, List.map_toArray, dx, gJ] using this
  · trivial
 exact fin
theorem NX (h : aZ g U w) (hG : fJ C g) {ρ : Env} {a : Act} (hr : fj g ρ a.tmps) (mu : Bool) (o : Oper) : av.Fits C g U (gH C mu o.op ρ U) ((execOp a.eval o).run C.P w) := by
 have e := fun x => p9 hG hr x
 obtain ⟨dst, op, type, pos, after, guard⟩ := o
 unfold gH
 dsimp only
 split
 · exact aS h (e _)
 · exact aS h (e _)
 · rename_i c x y
   unfold aP
   split
   · rename_i t ht
     have hc := e c
     rw [ht] at hc
     simp only [aw] at hc
     simp only [execOp, hc, asBool, bI, ca, bY]
     refine aS h ?_
     cases t
     · exact e _
     · exact e _
   · trivial
 · exact Ei h
 · exact HS h (e _)
 · obtain ⟨h1, h2⟩ := wT hG hr ‹_›
   exact Em h h1 h2
 · obtain ⟨h1, h2⟩ := wT hG hr ‹_›
   exact xK h h1 h2
 · exact rl h (e _) (e _) (e _)
 · exact rl h (e _) (e _) (e _)
 · exact G9 h (e _)
 · exact E6 h (e _) (e _)
 · exact Ak h rfl (e _)
 · exact HQ h _ _ (e _) (e _)
 · exact O3 h (e _)
 · exact Gs h (e _)
 · exact ze h (e _)
 · rename_i fn first cap
   simp only [execOp, Instr.makeFunc, bI, ca, bY]
   refine aS h ?_
   simp only [aw]
   exact ⟨first.toList.map a.eval, cap.toList.map a.eval, by congr 1 <;> (apply Array.ext'; simp), wj hG hr _, wj hG hr _⟩
 · simp only [execOp, Instr.makeMap, Option.map_none, bI, ca, bY, run_newObj]
   exact Hh h
 · exact E0 h (e _) (FY hG hr _) (FY hG hr _)
 · exact yG h (e _)
 · exact z6 h (e _)
 · exact y6 h (e _) (e _)
 · exact EE h (e _) (e _)
 · exact Dr h (e _) (e _)
 · exact BI h (e _) _
 · exact ET h (e _)
 · exact EV h (e _)
 · exact yh h (e _)
 · exact zf h (e _) (e _)
 · exact Hi h (e _)
 · exact Eu h (e _)
 · exact Gn h hG hr mu _ _
 · trivial
end
end Go.Rip
