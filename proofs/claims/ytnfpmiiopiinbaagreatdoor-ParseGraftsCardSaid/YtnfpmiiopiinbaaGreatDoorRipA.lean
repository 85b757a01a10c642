/- Lemmas for the proof: no conditions. -/
import Derived.Test.YtnfpmiiopiinbaaGreatDoorRipZz
import Derived.RangeFuncIn
import Derived.Laws.AppendOwn
import Derived.Below
import Derived.Laws.StructEq
import Derived.Lib.ConvBytes
import Derived.RangeFuncLeaves
import Derived.RangeFuncCalls
import Derived.Laws.MakeOwn
set_option linter.unusedVariables false
set_option linter.unusedSimpArgs false
set_option linter.loopingSimpArgs false
namespace Go.Rip
open Go.RowKit
structure Tok where
 n : Nat
 e : TypeId
 size : Nat
 deriving DecidableEq
inductive iQ where
 | full
 | own (τ : Nat)
 | hX
inductive AV where
 | bool (b : Bool)
 | int (k : IntKind) (n : Int)
 | str (s : List UInt8)
 | a8
 | al
 | ke
 | dh
 | cW
 | box (b off : Nat)
 | ck (l : List AV)
 | vec (n : Nat) (cap : iQ) (l : List AV)
 | ms (b off n gN : Nat) (e : TypeId)
 | mp (m : Nat)
 | eR (ks vs : List AV)
 | func (fn : Fn) (first captured : List AV)
 | iface (t : TypeId) (v : AV)
 | agg (l : List AV)
 | aR (l : List AV)
 | pN (o : Nat)
 | it (o : Nat)
 | any
instance : Inhabited AV := ⟨.any⟩
structure Place where
 aH : Nat
 e : TypeId
 size : Nat
structure fw where
 ρ : Nat -> AV
 nt : Nat
 params : Array Tmp
 assign : Code
 body : Code
 state : LoopState
 eT : Option Code
 tag : Nat
inductive Live where
 | box (l : List AV)
 | tok (t : Tok)
 | mp (ks vs : List AV)
 | loop (L : fw)
 | iter (rest : List (AV × AV)) (cur : Option (AV × AV))
 | yf (t : TypeId) (l : List AV)
structure Gh where
 base : Nat
 w0 : World
 place : Nat -> Option Place
 bQ : Nat -> Nat -> Option Value
 bL : Nat -> Option (Array MapEntry × Nat)
 res : Nat -> Bool
def Gh.box (g : Gh) (b : Nat) : Option Place := g.place b
def Gh.tok (g : Gh) (b : Nat) : Option (Nat × Nat) := (g.place b).map fun p => (p.aH, p.size)
def Gh.mp (g : Gh) (b : Nat) : Option Nat := (g.place b).map (·.aH)
theorem Gh.iM {g : Gh} {b : Nat} {x : Nat × Nat} : g.tok b = some x ↔ ∃ p, g.place b = some p /\ p.aH = x.1 /\ p.size = x.2 := by
 unfold Gh.tok
 cases g.place b with
 | none => simp
 | some p => simp [Prod.ext_iff]
theorem Gh.nc {g : Gh} {b : Nat} {x : Nat} : g.mp b = some x ↔ ∃ p, g.place b = some p /\ p.aH = x := by
 unfold Gh.mp
 cases g.place b with
 | none => simp
 | some p => simp
def jv (g : Gh) (aH off : Nat) (vs : List Value) : Prop := ∀ i u, vs[i]? = some u -> g.bQ aH (off + i) = some u
def og (g : Gh) (cap : iQ) (aH off n c : Nat) : Prop :=
 match cap with
 | .full => c = n
 | .own τ => off = 0 /\ g.tok τ = some (aH, c)
 | .hX => True
def gS : AV -> AV -> Bool
 | .int k a, .int k' b => decide (k = k') && decide (a < b)
 | .str a, .str b => decide (a < b)
 | _, _ => false
def mR (ks : List AV) : Prop := ks.Pairwise (fun a b => gS a b = true)
def iN (es : Array MapEntry) (clock : Nat) : Prop := (es.toList.map (·.born)).Nodup /\ ∀ e ∈ es.toList, e.born < clock
mutual
def az (g : Gh) : AV -> Value -> Prop
 | .bool b, v => v = .bool b
 | .int k n, v => v = .int k n
 | .str s, v => v = .string ⟨s.toArray⟩
 | .a8, v => v = .pointer none
 | .al, v => v = .slice none 0 0
 | .ke, v => v = .map none
 | .dh, v => v = .nilFunc
 | .cW, v => v = .nilIface
 | .box b off, v => ∃ x, g.box b = some x /\ v = .pointer (some ⟨x.aH, off, none⟩)
 | .ck l, v => ∃ aH off vs, v = .pointer (some ⟨aH, off, none⟩) /\ jv g aH off vs /\ aE g l vs
 | .vec n cap l, v => ∃ aH off c vs, v = .slice (some ⟨aH, off, none⟩) n c /\ n <= c /\ c <= maxLen /\ og g cap aH off n c /\ jv g aH off vs /\ aE g l vs
 | .ms b off n gN e, v => ∃ x c, g.box b = some x /\ v = .slice (some ⟨x.aH, off, none⟩) n c /\ n <= c /\ c <= maxLen /\ off + c * gN = x.size /\ x.e = e
 | .mp m, v => ∃ r, g.mp m = some r /\ v = .map (some r)
 | .eR ks vs, v => ∃ r es clock, ∃ l : List MapEntry, v = .map (some r) /\ g.bL r = some (es, clock) /\ l.Perm es.toList /\ mR ks /\ aE g ks (l.map (·.key)) /\ aE g vs (l.map (·.val))
 | .func fn first captured, v => ∃ fs cs, v = .func fn (List.toArray fs) (List.toArray cs) /\ aE g first fs /\ aE g captured cs
 | .iface t x, v => ∃ u, v = .iface t u /\ az g x u
 | .agg l, v => ∃ vs, v = .agg (List.toArray vs) /\ (∀ u ∈ vs, u.oneCell' = true) /\ aE g l vs
 | .aR l, v => ∃ vs, v = .tuple (List.toArray vs) /\ aE g l vs
 | .pN o, v => ∃ x, g.place o = some x /\ v = .func (.yield x.aH) #[] #[]
 | .it o, v => ∃ x, g.place o = some x /\ v = .pointer (some ⟨x.aH, 0, none⟩)
 | .any, _ => True
def aE (g : Gh) : List AV -> List Value -> Prop
 | [], vs => vs = []
 | x :: xs, vs => ∃ u us, vs = u :: us /\ az g x u /\ aE g xs us
end
structure Gh.Le (g g' : Gh) : Prop where
 base : g'.base = g.base
 w0 : g'.w0 = g.w0
 place : ∀ b x, g.place b = some x -> g'.place b = some x
 bQ : ∀ b o x, g.bQ b o = some x -> g'.bQ b o = some x
 bL : ∀ b x, g.bL b = some x -> g'.bL b = some x
 res : ∀ b, g.res b = true -> g'.res b = true
 wi : ∀ b o, b < g.base -> g'.bQ b o = g.bQ b o
 tm : ∀ b, b < g.base -> g'.bL b = g.bL b
theorem Gh.Le.refl (g : Gh) : Gh.Le g g := ⟨rfl, rfl, fun _ _ h => h, fun _ _ _ h => h, fun _ _ h => h, fun _ h => h, fun _ _ _ => rfl, fun _ _ => rfl⟩
theorem Gh.Le.trans {a b c : Gh} (h : Gh.Le a b) (k : Gh.Le b c) : Gh.Le a c :=
 ⟨k.base.trans h.base, k.w0.trans h.w0, fun _ _ x => k.place _ _ (h.place _ _ x), fun _ _ _ x => k.bQ _ _ _ (h.bQ _ _ _ x), fun _ _ x => k.bL _ _ (h.bL _ _ x), fun _ x => k.res _ (h.res _ x),
   fun q o hq => (k.wi q o (by rw [h.base]; exact hq)).trans (h.wi q o hq), fun q hq => (k.tm q (by rw [h.base]; exact hq)).trans (h.tm q hq)⟩
structure Gh.qE (g g' : Gh) : Prop where
 place : ∀ b x, g.place b = some x -> g'.place b = some x
 bQ : ∀ b o x, g.bQ b o = some x -> g'.bQ b o = some x
 bL : ∀ b x, g.bL b = some x -> g'.bL b = some x
theorem Gh.qE.tok {g g' : Gh} (h : Gh.qE g g') {b : Nat} {x : Nat × Nat} (hb : g.tok b = some x) : g'.tok b = some x := by
 obtain ⟨p, h1, h2, h3⟩ := Gh.iM.1 hb
 exact Gh.iM.2 ⟨p, h.place _ _ h1, h2, h3⟩
theorem Gh.qE.mp {g g' : Gh} (h : Gh.qE g g') {b x : Nat} (hb : g.mp b = some x) : g'.mp b = some x := by
 obtain ⟨p, h1, h2⟩ := Gh.nc.1 hb
 exact Gh.nc.2 ⟨p, h.place _ _ h1, h2⟩
theorem Gh.Le.r {g g' : Gh} (h : Gh.Le g g') : Gh.qE g g' := ⟨h.place, h.bQ, h.bL⟩
theorem Gh.Le.box {g g' : Gh} (h : Gh.Le g g') (b : Nat) (x : Place) (hb : g.box b = some x) : g'.box b = some x := h.place b x hb
theorem Gh.Le.tok {g g' : Gh} (h : Gh.Le g g') (b : Nat) (x : Nat × Nat) (hb : g.tok b = some x) : g'.tok b = some x := h.r.tok hb
theorem Gh.Le.mp {g g' : Gh} (h : Gh.Le g g') (b : Nat) (x : Nat) (hb : g.mp b = some x) : g'.mp b = some x := h.r.mp hb
theorem jv.ee {g g' : Gh} (h : Gh.qE g g') {aH off : Nat} {vs : List Value} (hi : jv g aH off vs) : jv g' aH off vs := fun i u hu => h.bQ _ _ _ (hi i u hu)
theorem og.ee {g g' : Gh} (h : Gh.qE g g') {cap : iQ} {aH off n c : Nat} (hi : og g cap aH off n c) : og g' cap aH off n c := by
 cases cap with
 | full => exact hi
 | own τ => exact ⟨hi.1, h.tok hi.2⟩
 | hX => trivial
mutual
theorem az.ee {g g' : Gh} (h : Gh.qE g g') : ∀ (x : AV) (v : Value), az g x v -> az g' x v
 | .bool _, _, hr => hr
 | .int _ _, _, hr => hr
 | .str _, _, hr => hr
 | .a8, _, hr => hr
 | .al, _, hr => hr
 | .ke, _, hr => hr
 | .dh, _, hr => hr
 | .cW, _, hr => hr
 | .box _ _, _, hr => by
   simp only [az] at hr ⊢
   obtain ⟨x, hx, hv⟩ := hr
   exact ⟨x, h.place _ _ hx, hv⟩
 | .ck l, _, hr => by
   simp only [az] at hr ⊢
   obtain ⟨aH, off, vs, hv, hi, hl⟩ := hr
   exact ⟨aH, off, vs, hv, hi.ee h, aE.ee h l vs hl⟩
 | .vec n cap l, _, hr => by
   simp only [az] at hr ⊢
   obtain ⟨aH, off, c, vs, hv, h1, h2, hc, hi, hl⟩ := hr
   exact ⟨aH, off, c, vs, hv, h1, h2, hc.ee h, hi.ee h, aE.ee h l vs hl⟩
 | .ms _ _ _ _ _, _, hr => by
   simp only [az] at hr ⊢
   obtain ⟨x, c, hx, r⟩ := hr
   exact ⟨x, c, h.place _ _ hx, r⟩
 | .mp _, _, hr => by
   simp only [az] at hr ⊢
   obtain ⟨x, hx, hv⟩ := hr
   exact ⟨x, h.mp hx, hv⟩
 | .eR ks vs, _, hr => by
   simp only [az] at hr ⊢
   obtain ⟨r, es, c, l, hv, he, hp, hs, h1, h2⟩ := hr
   exact ⟨r, es, c, l, hv, h.bL _ _ he, hp, hs, aE.ee h ks _ h1, aE.ee h vs _ h2⟩
 | .func fn first captured, _, hr => by
   simp only [az] at hr ⊢
   obtain ⟨fs, cs, hv, h1, h2⟩ := hr
   exact ⟨fs, cs, hv, aE.ee h first _ h1, aE.ee h captured _ h2⟩
 | .iface t x, _, hr => by
   simp only [az] at hr ⊢
   obtain ⟨u, hv, h1⟩ := hr
   exact ⟨u, hv, az.ee h x _ h1⟩
 | .agg l, _, hr => by
   simp only [az] at hr ⊢
   obtain ⟨vs, hv, h0, h1⟩ := hr
   exact ⟨vs, hv, h0, aE.ee h l _ h1⟩
 | .aR l, _, hr => by
   simp only [az] at hr ⊢
   obtain ⟨vs, hv, h1⟩ := hr
   exact ⟨vs, hv, aE.ee h l _ h1⟩
 | .pN o, _, hr => by
   simp only [az] at hr ⊢
   obtain ⟨x, hx, hv⟩ := hr
   exact ⟨x, h.place _ _ hx, hv⟩
 | .it o, _, hr => by
   simp only [az] at hr ⊢
   obtain ⟨x, hx, hv⟩ := hr
   exact ⟨x, h.place _ _ hx, hv⟩
 | .any, _, _ => by simp only [az]
theorem aE.ee {g g' : Gh} (h : Gh.qE g g') : ∀ (l : List AV) (vs : List Value), aE g l vs -> aE g' l vs
 | [], _, hr => by simpa only [aE] using hr
 | x :: xs, _, hr => by
   simp only [aE] at hr ⊢
   obtain ⟨u, us, hv, h1, h2⟩ := hr
   exact ⟨u, us, hv, az.ee h x _ h1, aE.ee h xs _ h2⟩
end
theorem jv.mono {g g' : Gh} (h : Gh.Le g g') {aH off : Nat} {vs : List Value} (hi : jv g aH off vs) : jv g' aH off vs := hi.ee h.r
theorem og.mono {g g' : Gh} (h : Gh.Le g g') {cap : iQ} {aH off n c : Nat} (hi : og g cap aH off n c) : og g' cap aH off n c := hi.ee h.r
theorem az.mono {g g' : Gh} (h : Gh.Le g g') (x : AV) (v : Value) (hr : az g x v) : az g' x v := az.ee h.r x v hr
theorem aE.mono {g g' : Gh} (h : Gh.Le g g') (l : List AV) (vs : List Value) (hr : aE g l vs) : aE g' l vs := aE.ee h.r l vs hr
theorem aE.length {g : Gh} : ∀ {l : List AV} {vs : List Value}, aE g l vs -> vs.length = l.length
 | [], _, h => by simp only [aE] at h; simp [h]
 | _ :: xs, _, h => by
   simp only [aE] at h
   obtain ⟨u, us, rfl, _, h2⟩ := h
   simp [aE.length h2]
theorem aE.append {g : Gh} : ∀ {l l' : List AV} {vs vs' : List Value}, aE g l vs -> aE g l' vs' -> aE g (l ++ l') (vs ++ vs')
 | [], _, _, _, h, h' => by simp only [aE] at h; subst h; simpa using h'
 | _ :: xs, _, _, _, h, h' => by
   simp only [aE, kf] at h ⊢
   obtain ⟨u, us, rfl, h1, h2⟩ := h
   exact ⟨u, us ++ _, rfl, h1, aE.append h2 h'⟩
theorem aE.get {g : Gh} : ∀ {l : List AV} {vs : List Value} {i : Nat} {x : AV}, aE g l vs -> l[i]? = some x -> ∃ v, vs[i]? = some v /\ az g x v
 | [], _, _, _, _, hx => by simp at hx
 | y :: xs, _, 0, x, h, hx => by
   simp only [aE] at h
   obtain ⟨u, us, rfl, h1, h2⟩ := h
   simp at hx; subst hx; exact ⟨u, rfl, h1⟩
 | y :: xs, _, i + 1, x, h, hx => by
   simp only [aE] at h
   obtain ⟨u, us, rfl, h1, h2⟩ := h
   simp at hx
   obtain ⟨v, hv, hr⟩ := aE.get h2 hx
   exact ⟨v, by simpa using hv, hr⟩
theorem aE.drop {g : Gh} : ∀ {l : List AV} {vs : List Value} (n : Nat), aE g l vs -> aE g (l.drop n) (vs.drop n)
 | _, _, 0, h => by simpa using h
 | [], _, n + 1, h => by simp only [aE] at h; subst h; simp [aE]
 | _ :: xs, _, n + 1, h => by
   simp only [aE] at h
   obtain ⟨u, us, rfl, h1, h2⟩ := h
   simpa using aE.drop n h2
theorem aE.take {g : Gh} : ∀ {l : List AV} {vs : List Value} (n : Nat), aE g l vs -> aE g (l.take n) (vs.take n)
 | _, _, 0, _ => by simp [aE]
 | [], _, n + 1, h => by simp only [aE] at h; subst h; simp [aE]
 | _ :: xs, _, n + 1, h => by
   simp only [aE] at h
   obtain ⟨u, us, rfl, h1, h2⟩ := h
   simp only [List.take_succ_cons, aE]
   exact ⟨u, _, rfl, h1, aE.take n h2⟩
theorem aE.zR {g : Gh} : ∀ {l : List AV} {vs : List Value}, vs.length = l.length -> (∀ (i : Nat) (x : AV) (v : Value), l[i]? = some x -> vs[i]? = some v -> az g x v) -> aE g l vs
 | [], vs, hl, _ => by simp only [aE]; simpa using hl
 | x :: xs, [], hl, _ => by simp at hl
 | x :: xs, v :: vs, hl, h => by
   simp only [aE]
   exact ⟨v, vs, rfl, h 0 x v rfl rfl, aE.zR (by simpa using hl) fun i x v hx hv => h (i + 1) x v (by simpa using hx) (by simpa using hv)⟩
def tT (g : Gh) (ks vs : List AV) (es : Array MapEntry) : Prop := ∃ l : List MapEntry, l.Perm es.toList /\ mR ks /\ aE g ks (l.map (·.key)) /\ aE g vs (l.map (·.val))
def yX (g : Gh) (es : Array MapEntry) (seen : Array Nat) (rest : List (AV × AV)) (cur : Option (AV × AV)) : Prop :=
 (∃ l : List MapEntry, l.Perm (es.toList.filter fun e => !seen.contains e.born) /\ aE g (rest.map (·.1)) (l.map (·.key)) /\ aE g (rest.map (·.2)) (l.map (·.val))) /\
 (match cur with
  | none => True
  | some (k, v) => ∃ e ∈ es.toList, seen.back? = some e.born /\ az g k e.key /\ az g v e.val)
def jx (g : Gh) (w : World) (p : Place) : Live -> Prop
 | .box l => ∃ cur vs rest, w.heap[p.aH]? = some (.cells cur p.e (0, 0)) /\ cur.size = p.size /\ cur.toList = vs ++ rest /\ aE g l vs /\ (∀ u ∈ cur.toList, u.oneCell' = true) /\ (∀ o, g.bQ p.aH o = none)
 | .tok t => ∃ cur, w.heap[p.aH]? = some (.cells cur t.e (0, 0)) /\ cur.size = p.size * t.size /\ t.n <= p.size /\ p.size <= maxLen /\ (∀ o, t.n * t.size <= o -> g.bQ p.aH o = none)
 | .mp ks vs => ∃ es clock, w.heap[p.aH]? = some (.map es clock) /\ iN es clock /\ tT g ks vs es /\ g.bL p.aH = none
 | .loop L => ∃ fn tmps defers, w.heap[p.aH]? = some (.loop { state := L.state, pending := L.eT, fn, tmps, params := L.params, assign := L.assign, body := L.body, defers }) /\ tmps.size = L.nt /\ ∀ t, az g (L.ρ t) (tmps.getD t undef)
 | .iter rest cur => ∃ m es clock seen, w.heap[p.aH]? = some (.mapIter (some m) clock seen clock) /\ g.bL m = some (es, clock) /\ yX g es seen rest cur
 | .yf t l => p.e = t /\ p.size = l.length /\ ∃ cur vs rest, w.heap[p.aH]? = some (.cells cur p.e (0, 0)) /\ cur.size = p.size /\ cur.toList = vs ++ rest /\ aE g l vs /\ (∀ u ∈ cur.toList, u.oneCell' = true) /\ (∀ o, g.bQ p.aH o = none)
structure St where
 live : Nat -> Option Live
 nb : Option Nat
def St.box (U : St) (b : Nat) : Option (List AV) := match U.live b with | some (.box l) => some l | some (.yf _ l) => some l | _ => none
def St.tok (U : St) (b : Nat) : Option Tok := match U.live b with | some (.tok t) => some t | _ => none
def St.mp (U : St) (b : Nat) : Option (List AV × List AV) := match U.live b with | some (.mp ks vs) => some (ks, vs) | _ => none
def St.loop (U : St) (b : Nat) : Option fw := match U.live b with | some (.loop L) => some L | _ => none
def St.iter (U : St) (b : Nat) : Option (List (AV × AV) × Option (AV × AV)) := match U.live b with | some (.iter r c) => some (r, c) | _ => none
theorem St.qG {U : St} {b : Nat} {l : List AV} (h : U.box b = some l) : ∃ x, U.live b = some x /\ ∀ g w p, jx g w p x -> jx g w p (.box l) := by
 unfold St.box at h
 split at h
 · rename_i l' hl; cases h; exact ⟨_, hl, fun _ _ _ h => h⟩
 · rename_i t l' hl; cases h; exact ⟨_, hl, fun _ _ _ h => h.2.2⟩
 · cases h
theorem St.iM {U : St} {b : Nat} {l : Tok} : U.tok b = some l ↔ U.live b = some (.tok l) := by unfold St.tok; split <;> simp_all
theorem St.nc {U : St} {b : Nat} {l : List AV × List AV} : U.mp b = some l ↔ U.live b = some (.mp l.1 l.2) := by unfold St.mp; split <;> simp_all [Prod.ext_iff]
theorem St.kI {U : St} {b : Nat} {l : fw} : U.loop b = some l ↔ U.live b = some (.loop l) := by unfold St.loop; split <;> simp_all
theorem St.uy {U : St} {b : Nat} {l : List (AV × AV) × Option (AV × AV)} : U.iter b = some l ↔ U.live b = some (.iter l.1 l.2) := by unfold St.iter; split <;> simp_all [Prod.ext_iff]
def St.set (U : St) (b : Nat) (x : Live) : St := { U with live := fun y => if y = b then some x else U.live y }
def St.del (U : St) (b : Nat) : St := { U with live := fun y => if y = b then none else U.live y }
def St.new (U : St) (b : Nat) (x : Live) : St := { live := fun y => if y = b then some x else U.live y, nb := U.nb.map (· + 1) }
def St.cY (U : St) (b : Nat) : Prop := U.live b = none /\ ∀ n, U.nb = some n -> b = n
structure aZ (g : Gh) (U : St) (w : World) : Prop where
 below : Below g.base g.w0 w
 le : g.base <= w.heap.size
 bQ : ∀ aH o u, g.bQ aH o = some u -> w.cell? ⟨aH, o, none⟩ = some u /\ u.oneCell' = true
 bL : ∀ r es c, g.bL r = some (es, c) -> w.heap[r]? = some (.map es c) /\ iN es c
 live : ∀ b x, U.live b = some x -> ∃ p, g.place b = some p /\ g.base <= p.aH /\ jx g w p x
 apart : ∀ b b' x x' p p', U.live b = some x -> U.live b' = some x' -> g.place b = some p -> g.place b' = some p' -> p.aH = p'.aH -> b = b'
 res : ∀ r, g.res r = true -> g.base <= r /\ w.heap[r]? = some (.deferred (some []))
 fin : ∃ N, (∀ n, U.nb = some n -> N = n) /\ ∀ b, N <= b -> g.place b = none
end Go.Rip
namespace Go.Rip
open Go.RowKit
structure St.Le (U ae : St) : Prop where
 live : ∀ b x, U.live b = some x -> ae.live b = some x
 nb : ∀ n, U.nb = some n -> ae.nb = some n
theorem St.Le.refl (U : St) : St.Le U U := ⟨fun _ _ h => h, fun _ h => h⟩
theorem St.Le.trans {a b c : St} (h : St.Le a b) (k : St.Le b c) : St.Le a c := ⟨fun _ _ x => k.live _ _ (h.live _ _ x), fun _ x => k.nb _ (h.nb _ x)⟩
theorem St.qI (U : St) (b : Nat) : St.Le (U.del b) U := ⟨fun x y hx => by simp only [St.del] at hx; split at hx <;> simp_all, fun _ h => h⟩
theorem aZ.weaken {g : Gh} {U ae : St} {w : World} (h : aZ g ae w) (hl : St.Le U ae) : aZ g U w where
 below := h.below
 le := h.le
 bQ := h.bQ
 bL := h.bL
 live := fun b l hb => h.live b l (hl.live _ _ hb)
 apart := fun b b' l l' x x' h1 h2 => h.apart b b' l l' x x' (hl.live _ _ h1) (hl.live _ _ h2)
 res := h.res
 fin := let ⟨N, h1, h2⟩ := h.fin; ⟨N, fun n hn => h1 n (hl.nb n hn), h2⟩
theorem Ch {w w' : World} {k : Nat} (h : w'.heap[k]? = w.heap[k]?) (o : Nat) : w'.cell? ⟨k, o, none⟩ = w.cell? ⟨k, o, none⟩ := by simp [World.cell?, h]
theorem aZ.JI {g : Gh} {U : St} {w : World} (h : aZ g U w) {aH o : Nat} {u : Value} (hi : g.bQ aH o = some u) : aH < w.heap.size :=
 World.block_lt_of_cell? w ⟨aH, o, none⟩ (h.bQ _ _ _ hi).1
theorem aZ.Gt {g : Gh} {U : St} {w : World} (h : aZ g U w) {r : Nat} {x : Array MapEntry × Nat} (hi : g.bL r = some x) : r < w.heap.size :=
 (jb.1 (h.bL r x.1 x.2 hi).1).1
theorem aZ.w9 {g : Gh} {U : St} {w : World} (h : aZ g U w) {q : Nat} (hq : w.heap.size <= q) (o : Nat) : g.bQ q o = none := by
 cases e : g.bQ q o with
 | none => rfl
 | some u => have := h.JI e; omega
theorem aZ.uo {g : Gh} {U : St} {w : World} (h : aZ g U w) {q : Nat} (hq : w.heap.size <= q) : g.bL q = none := by
 cases e : g.bL q with
 | none => rfl
 | some u => have := h.Gt e; omega
theorem tT.ee {g g' : Gh} (h : Gh.qE g g') {ks vs : List AV} {es : Array MapEntry} (hm : tT g ks vs es) : tT g' ks vs es :=
 let ⟨l, h1, h2, h3, h4⟩ := hm; ⟨l, h1, h2, h3.ee h, h4.ee h⟩
theorem yX.ee {g g' : Gh} (h : Gh.qE g g') {es : Array MapEntry} {seen : Array Nat} {rest : List (AV × AV)} {cur : Option (AV × AV)} (hm : yX g es seen rest cur) : yX g' es seen rest cur := by
 obtain ⟨⟨l, h1, h2, h3⟩, h4⟩ := hm
 refine ⟨⟨l, h1, h2.ee h, h3.ee h⟩, ?_⟩
 cases cur with
 | none => trivial
 | some kv => obtain ⟨e, k1, k2, k3, k4⟩ := h4; exact ⟨e, k1, k2, k3.ee h, k4.ee h⟩
theorem jx.frame {g g' : Gh} {w w' : World} {p : Place} {x : Live} (h : jx g w p x) (hl : Gh.qE g g') (hb : w'.heap[p.aH]? = w.heap[p.aH]?) (hi : ∀ o, g'.bQ p.aH o = g.bQ p.aH o) (hm : g'.bL p.aH = g.bL p.aH) : jx g' w' p x := by
 cases x with
 | box l => obtain ⟨cur, vs, rest, h1, h2, h3, h4, h5, h6⟩ := h; exact ⟨cur, vs, rest, hb.trans h1, h2, h3, h4.ee hl, h5, fun o => (hi o).trans (h6 o)⟩
 | tok t => obtain ⟨cur, h1, h2, h3, h4, h5⟩ := h; exact ⟨cur, hb.trans h1, h2, h3, h4, fun o ho => (hi o).trans (h5 o ho)⟩
 | mp ks vs => obtain ⟨es, clock, h1, h2, h3, h4⟩ := h; exact ⟨es, clock, hb.trans h1, h2, h3.ee hl, hm.trans h4⟩
 | loop L => obtain ⟨fn, tmps, defers, h1, h2, h3⟩ := h; exact ⟨fn, tmps, defers, hb.trans h1, h2, fun t => (h3 t).ee hl⟩
 | iter rest cur => obtain ⟨m, es, clock, seen, h1, h2, h3⟩ := h; exact ⟨m, es, clock, seen, hb.trans h1, hl.bL _ _ h2, h3.ee hl⟩
 | yf t l => obtain ⟨e1, e2, cur, vs, rest, h1, h2, h3, h4, h5, h6⟩ := h; exact ⟨e1, e2, cur, vs, rest, hb.trans h1, h2, h3, h4.ee hl, h5, fun o => (hi o).trans (h6 o)⟩
theorem jx.lt {g : Gh} {w : World} {p : Place} {x : Live} (h : jx g w p x) : p.aH < w.heap.size := by
 have : ∃ o, w.heap[p.aH]? = some o := by
  cases x with
  | box l => obtain ⟨cur, vs, rest, h1, _⟩ := h; exact ⟨_, h1⟩
  | tok t => obtain ⟨cur, h1, _⟩ := h; exact ⟨_, h1⟩
  | mp ks vs => obtain ⟨es, clock, h1, _⟩ := h; exact ⟨_, h1⟩
  | loop L => obtain ⟨fn, tmps, defers, h1, _⟩ := h; exact ⟨_, h1⟩
  | iter rest cur => obtain ⟨m, es, clock, seen, h1, _⟩ := h; exact ⟨_, h1⟩
  | yf t l => obtain ⟨_, _, cur, vs, rest, h1, _⟩ := h; exact ⟨_, h1⟩
 exact (jb.1 this.choose_spec).1
theorem jx.GC {g : Gh} {w : World} {p : Place} {x : Live} (h : jx g w p x) {r : Nat} {ds : Option (List Deferred)} (hr : w.heap[r]? = some (.deferred ds)) : p.aH ≠ r := by
 intro e
 subst e
 cases x with
 | box l => obtain ⟨cur, vs, rest, h1, _⟩ := h; rw [hr] at h1; cases h1
 | tok t => obtain ⟨cur, h1, _⟩ := h; rw [hr] at h1; cases h1
 | mp ks vs => obtain ⟨es, clock, h1, _⟩ := h; rw [hr] at h1; cases h1
 | loop L => obtain ⟨fn, tmps, defers, h1, _⟩ := h; rw [hr] at h1; cases h1
 | iter rest cur => obtain ⟨m, es, clock, seen, h1, _⟩ := h; rw [hr] at h1; cases h1
 | yf t l => obtain ⟨_, _, cur, vs, rest, h1, _⟩ := h; rw [hr] at h1; cases h1
theorem aZ.change {g g' : Gh} {U : St} {w w' : World} (h : aZ g U w) (B : Nat) (hB : g.base <= B) (hle : Gh.Le g g') (oS : g'.place = g.place) (hres : g'.res = g.res)
 (hw : w'.os = w.os /\ w'.tape = w.tape /\ w'.output = w.output /\ w.heap.size <= w'.heap.size) (hk : ∀ k, k ≠ B -> k < w.heap.size -> w'.heap[k]? = w.heap[k]?)
 (ly : ∀ q o, q ≠ B -> g'.bQ q o = g.bQ q o) (Qk : ∀ q, q ≠ B -> g'.bL q = g.bL q)
 (hi : ∀ o u, g'.bQ B o = some u -> w'.cell? ⟨B, o, none⟩ = some u /\ u.oneCell' = true) (hm : ∀ es c, g'.bL B = some (es, c) -> w'.heap[B]? = some (.map es c) /\ iN es c)
 (fT : ∀ b x p, U.live b = some x -> g.place b = some p -> p.aH ≠ B) (Yn : g.res B = false) : aZ g' U w' := by
 have aJ : ∀ k o, w.heap[k]? = some o -> k ≠ B -> w'.heap[k]? = some o := fun k o Zv hn => by rw [hk k hn (jb.1 Zv).1]; exact Zv
 exact {
  below := by
   rw [hle.base, hle.w0]
   exact h.below.trans ⟨hw.1, hw.2.1, hw.2.2.1, hw.2.2.2, fun k Zu => hk k (by omega) (by have := h.le; omega)⟩
  le := by rw [hle.base]; exact Nat.le_trans h.le hw.2.2.2
  bQ := fun q o u hu => by
   by_cases hq : q = B
   · subst hq; exact hi o u hu
   · rw [ly q o hq] at hu
     rw [Ch (hk q hq (h.JI hu))]; exact h.bQ _ _ _ hu
  bL := fun r es c hr => by
   by_cases hq : r = B
   · subst hq; exact hm es c hr
   · rw [Qk r hq] at hr
     rw [hk r hq (h.Gt hr)]; exact h.bL _ _ _ hr
  live := fun b x hb => by
   obtain ⟨p, h1, h2, h3⟩ := h.live b x hb
   have Gp := fT b x p hb h1
   refine ⟨p, by rw [oS]; exact h1, by rw [hle.base]; exact h2, h3.frame hle.r (hk _ Gp h3.lt) (fun o => ly _ _ Gp) (Qk _ Gp)⟩
  apart := fun b b' x x' p p' h1 h2 h3 h4 h5 => by rw [oS] at h3 h4; exact h.apart b b' x x' p p' h1 h2 h3 h4 h5
  res := fun r hr => by
   rw [hres] at hr
   obtain ⟨h1, h2⟩ := h.res r hr
   rw [hle.base]
   exact ⟨h1, aJ _ _ h2 (fun e => by subst e; rw [Yn] at hr; cases hr)⟩
  fin := by rw [oS]; exact h.fin }
theorem aZ.named {g : Gh} {U : St} {w : World} (h : aZ g U w) {b : Nat} {p : Place} {x : Live} (hb : g.place b = some p) (hB : g.base <= p.aH) (hx : jx g w p x)
 (fT : ∀ b' x' p', b' ≠ b -> U.live b' = some x' -> g.place b' = some p' -> p'.aH ≠ p.aH) : aZ g (U.set b x) w where
 below := h.below
 le := h.le
 bQ := h.bQ
 bL := h.bL
 live := fun b' x' dm => by
  simp only [St.set] at dm
  split at dm
  · rename_i e; subst e; cases dm; exact ⟨p, hb, hB, hx⟩
  · exact h.live b' x' dm
 apart := fun b1 b2 x1 x2 p1 p2 h1 h2 h3 h4 h5 => by
  simp only [St.set] at h1 h2
  by_cases e1 : b1 = b <;> by_cases e2 : b2 = b
  · rw [e1, e2]
  · rw [if_neg e2] at h2
    subst e1; rw [hb] at h3; cases h3
    exact absurd h5.symm (fT _ _ _ e2 h2 h4)
  · rw [if_neg e1] at h1
    subst e2; rw [hb] at h4; cases h4
    exact absurd h5 (fT _ _ _ e1 h1 h3)
  · rw [if_neg e1] at h1; rw [if_neg e2] at h2
    exact h.apart _ _ _ _ _ _ h1 h2 h3 h4 h5
 res := h.res
 fin := h.fin
def Gh.lM (g : Gh) (b : Nat) (p : Place) : Gh := { g with place := fun y => if y = b then some p else g.place y }
theorem Gh.ic (g : Gh) (b : Nat) (p : Place) : (g.lM b p).place b = some p := by simp [Gh.lM]
theorem Gh.lh (g : Gh) {b y : Nat} (p : Place) (h : y ≠ b) : (g.lM b p).place y = g.place y := by simp [Gh.lM, h]
theorem Gh.xZ {g : Gh} {b : Nat} (p : Place) (h : g.place b = none) : Gh.Le g (g.lM b p) :=
 ⟨rfl, rfl, fun y x hy => by rw [Gh.lh _ _ (fun e => by subst e; rw [h] at hy; cases hy)]; exact hy, fun _ _ _ h => h, fun _ _ h => h, fun _ h => h, fun _ _ _ => rfl, fun _ _ => rfl⟩
theorem aZ.newName {g : Gh} {U : St} {w : World} (h : aZ g U w) (p : Place) (hB : g.base <= p.aH) (fT : ∀ b' x' p', U.live b' = some x' -> g.place b' = some p' -> p'.aH ≠ p.aH) :
 ∃ b, U.cY b /\ Gh.Le g (g.lM b p) /\ ∀ x, jx (g.lM b p) w p x -> aZ (g.lM b p) (U.new b x) w := by
 obtain ⟨N, Zd, Ze⟩ := h.fin
 have BF : g.place N = none := Ze N (cX _)
 have ZA : U.live N = none := by
  cases e : U.live N with
  | none => rfl
  | some x => obtain ⟨p, h1, _⟩ := h.live N x e; rw [BF] at h1; cases h1
 refine ⟨N, ⟨ZA, Zd⟩, Gh.xZ p BF, fun x hx => ?_⟩
 have hle := Gh.xZ (g := g) p BF
 have bW : ∀ b x, U.live b = some x -> b ≠ N := fun b x hb e => by subst e; rw [ZA] at hb; cases hb
 exact {
  below := h.below
  le := h.le
  bQ := h.bQ
  bL := h.bL
  live := fun b' x' dm => by
   simp only [St.new] at dm
   split at dm
   · rename_i e; subst e; cases dm; exact ⟨p, Gh.ic _ _ _, hB, hx⟩
   · obtain ⟨p', h1, h2, h3⟩ := h.live b' x' dm
     exact ⟨p', hle.place _ _ h1, h2, h3.frame hle.r rfl (fun _ => rfl) rfl⟩
  apart := fun b1 b2 x1 x2 p1 p2 h1 h2 h3 h4 h5 => by
   simp only [St.new] at h1 h2
   by_cases e1 : b1 = N <;> by_cases e2 : b2 = N
   · rw [e1, e2]
   · rw [if_neg e2] at h2; rw [Gh.lh _ _ e2] at h4
     subst e1; rw [Gh.ic] at h3; cases h3
     exact absurd h5.symm (fT _ _ _ h2 h4)
   · rw [if_neg e1] at h1; rw [Gh.lh _ _ e1] at h3
     subst e2; rw [Gh.ic] at h4; cases h4
     exact absurd h5 (fT _ _ _ h1 h3)
   · rw [if_neg e1] at h1; rw [if_neg e2] at h2
     rw [Gh.lh _ _ e1] at h3; rw [Gh.lh _ _ e2] at h4
     exact h.apart _ _ _ _ _ _ h1 h2 h3 h4 h5
  res := h.res
  fin := ⟨N + 1, fun n hn => by
   simp only [St.new, mO] at hn
   obtain ⟨m, hm, rfl⟩ := hn
   rw [Zd m hm], fun b hb => by rw [Gh.lh _ _ (by omega)]; exact Ze b (by omega)⟩ }
theorem aZ.grow {g : Gh} {U : St} {w w' : World} (h : aZ g U w) (hg : w.grownBy w' none) : aZ g U w' := by
 have hb : ∀ k, k < w.heap.size -> w'.heap[k]? = w.heap[k]? := fun k hk => hg.block k hk (by simp)
 refine h.change w.heap.size h.le (Gh.Le.refl g) rfl rfl ⟨hg.os, hg.tape, hg.output, hg.size⟩ (fun k _ hk => hb k hk) (fun _ _ _ => rfl) (fun _ _ => rfl) (fun o u hu => ?_) (fun es c hr => ?_) (fun b x p h1 h2 => ?_) ?_
 · rw [h.w9 (cX _)] at hu; cases hu
 · rw [h.uo (cX _)] at hr; cases hr
 · obtain ⟨p', k1, _, k3⟩ := h.live b x h1
   rw [h2] at k1; cases k1
   exact Nat.ne_of_lt k3.lt
 · cases e : g.res w.heap.size with
   | false => rfl
   | true => have := (jb.1 (h.res _ e).2).1; omega
theorem iU (w : World) : w.grownBy w.drew none := ⟨rfl, rfl, rfl, cX _, fun _ _ _ => rfl⟩
theorem aZ.A6 {g : Gh} {U : St} {w : World} (h : aZ g U w) {q : Nat} (hq : w.heap.size <= q) : g.res q = false := by
 cases e : g.res q with
 | false => rfl
 | true => have := (jb.1 (h.res _ e).2).1; omega
theorem aZ.uF {g : Gh} {U : St} {w : World} (h : aZ g U w) {b : Nat} {x : Live} {p : Place} (hb : U.live b = some x) (hp : g.place b = some p) : p.aH < w.heap.size := by
 obtain ⟨p', k1, _, k3⟩ := h.live b x hb
 rw [hp] at k1; cases k1
 exact k3.lt
theorem aZ.rj {g : Gh} {U : St} {w : World} (h : aZ g U w) {b : Nat} {x : Live} {p : Place} (hb : U.live b = some x) (hp : g.place b = some p) : g.res p.aH = false := by
 cases e : g.res p.aH with
 | false => rfl
 | true =>
   obtain ⟨p', k1, _, k3⟩ := h.live b x hb
   rw [hp] at k1; cases k1
   exact absurd rfl (k3.GC (h.res _ e).2)
theorem aZ.qZ {g : Gh} {U : St} {w : World} (h : aZ g U w) (o : Obj) (e : TypeId) (size : Nat) (x : Live)
 (hx : ∀ g', Gh.Le g g' -> (∀ o, g'.bQ w.heap.size o = none) -> g'.bL w.heap.size = none -> jx g' (w.alloc o) ⟨w.heap.size, e, size⟩ x) :
 ∃ b g', U.cY b /\ Gh.Le g g' /\ g'.place b = some ⟨w.heap.size, e, size⟩ /\ aZ g' (U.new b x) (w.alloc o) := by
 have hs := h.grow (w.grownBy_alloc o none)
 obtain ⟨b, h1, h2, h3⟩ := hs.newName ⟨w.heap.size, e, size⟩ h.le (fun b' x' p' k1 k2 => Nat.ne_of_lt (h.uF k1 k2))
 exact ⟨b, _, h1, h2, Gh.ic _ _ _, h3 x (hx _ h2 (fun o => h.w9 (cX _) o) (h.uo (cX _)))⟩
end Go.Rip
namespace Go.Rip
open Go.RowKit
def St.bU (U : St) (b : Nat) (l : List AV) : St := U.set b (.box l)
def St.YN (U : St) (b : Nat) (kv : List AV × List AV) : St := U.set b (.mp kv.1 kv.2)
theorem aZ.box {g : Gh} {U : St} {w : World} (h : aZ g U w) (b : Nat) (l : List AV) (hb : U.box b = some l) : ∃ x cur vs rest, g.box b = some x /\ g.base <= x.aH /\ w.heap[x.aH]? = some (.cells cur x.e (0, 0)) /\ cur.size = x.size /\ cur.toList = vs ++ rest /\ aE g l vs /\
 (∀ u ∈ cur.toList, u.oneCell' = true) /\ (∀ o, g.bQ x.aH o = none) := by
 obtain ⟨y, hy, VI⟩ := St.qG hb
 obtain ⟨p, h1, h2, hp⟩ := h.live b _ hy
 obtain ⟨cur, vs, rest, h3, h4, h5, h6, h7, h8⟩ := VI _ _ _ hp
 exact ⟨p, cur, vs, rest, h1, h2, h3, h4, h5, h6, h7, h8⟩
theorem aZ.tok {g : Gh} {U : St} {w : World} (h : aZ g U w) (τ : Nat) (t : Tok) (ht : U.tok τ = some t) : ∃ aH c cur, g.tok τ = some (aH, c) /\ g.base <= aH /\ w.heap[aH]? = some (.cells cur t.e (0, 0)) /\ cur.size = c * t.size /\ t.n <= c /\ c <= maxLen /\
 (∀ o, t.n * t.size <= o -> g.bQ aH o = none) := by
 obtain ⟨p, h1, h2, cur, h3, h4, h5, h6, h7⟩ := h.live τ _ (St.iM.1 ht)
 exact ⟨p.aH, p.size, cur, Gh.iM.2 ⟨p, h1, rfl, rfl⟩, h2, h3, h4, h5, h6, h7⟩
theorem aZ.mp {g : Gh} {U : St} {w : World} (h : aZ g U w) (m : Nat) (kv : List AV × List AV) (hm : U.mp m = some kv) : ∃ r es clock, g.mp m = some r /\ g.base <= r /\ w.heap[r]? = some (.map es clock) /\ iN es clock /\ tT g kv.1 kv.2 es /\ g.bL r = none := by
 obtain ⟨p, h1, h2, es, clock, h3, h4, h5, h6⟩ := h.live m _ (St.nc.1 hm)
 exact ⟨p.aH, es, clock, Gh.nc.2 ⟨p, h1, rfl⟩, h2, h3, h4, h5, h6⟩
theorem aZ.rewrite {g : Gh} {U : St} {w w' : World} (h : aZ g U w) {b : Nat} {x x' : Live} {p : Place} (hb : U.live b = some x) (hp : g.place b = some p)
 (hw : w'.os = w.os /\ w'.tape = w.tape /\ w'.output = w.output /\ w.heap.size <= w'.heap.size) (hk : ∀ k, k ≠ p.aH -> k < w.heap.size -> w'.heap[k]? = w.heap[k]?)
 (hi : ∀ o, g.bQ p.aH o = none) (hm : g.bL p.aH = none) (hx : jx g w' p x') : aZ g (U.set b x') w' := by
 obtain ⟨p', k1, k2, k3⟩ := h.live b x hb
 rw [hp] at k1; cases k1
 have fT : ∀ b' x' p', b' ≠ b -> U.live b' = some x' -> g.place b' = some p' -> p'.aH ≠ p.aH := fun b' x' p' bW h1 h2 e => bW (h.apart _ _ _ _ _ _ h1 hb h2 hp e)
 have hd : ∀ b' x' p', (U.del b).live b' = some x' -> g.place b' = some p' -> p'.aH ≠ p.aH := fun b' x' p' h1 h2 => by
  simp only [St.del] at h1
  split at h1
  · cases h1
  · rename_i e; exact fT _ _ _ e h1 h2
 have h1 := (h.weaken (St.qI U b)).change p.aH k2 (Gh.Le.refl g) rfl rfl hw hk (fun _ _ _ => rfl) (fun _ _ => rfl) (fun o u hu => by rw [hi] at hu; cases hu) (fun es c hr => by rw [hm] at hr; cases hr) hd (h.rj hb hp)
 have h2 := h1.named hp k2 hx (fun b' x' p' _ q1 q2 => hd b' x' p' q1 q2)
 have e : (U.del b).set b x' = U.set b x' := by
  simp only [St.del, St.set, St.mk.injEq, and_true]
  funext y
  split <;> rfl
 rw [<- e]; exact h2
theorem aZ.cq {g : Gh} {U : St} {w : World} (h : aZ g U w) (e : TypeId) (cur : Array Value) (vs rest : List Value) (l : List AV) (hc : cur.toList = vs ++ rest) (hl : aE g l vs) (h1 : ∀ u ∈ cur.toList, u.oneCell' = true) :
 ∃ b g', U.cY b /\ Gh.Le g g' /\ g'.box b = some ⟨w.heap.size, e, cur.size⟩ /\ aZ g' (U.new b (.box l)) (w.alloc (.cells cur e)) :=
 h.qZ (.cells cur e) e cur.size (.box l) fun g' hle hi hm => ⟨cur, vs, rest, heap_alloc_new w _, rfl, hc, hl.mono hle, h1, hi⟩
theorem aZ.Kb {g : Gh} {U : St} {w : World} (h : aZ g U w) (e : TypeId) (cur : Array Value) (vs rest : List Value) (hc : cur.toList = vs ++ rest) (h1 : ∀ u ∈ cur.toList, u.oneCell' = true) :
 ∃ g', Gh.Le g g' /\ jv g' w.heap.size 0 vs /\ (∀ o, vs.length <= o -> g'.bQ w.heap.size o = none) /\ g'.place = g.place /\ aZ g' U (w.alloc (.cells cur e)) := by
 let g' : Gh := { g with bQ := fun aH o => if aH = w.heap.size then vs[o]? else g.bQ aH o }
 have nz : ∀ o, g'.bQ w.heap.size o = vs[o]? := fun o => by show (if w.heap.size = w.heap.size then _ else _) = _; rw [if_pos rfl]
 have hold : ∀ aH o, aH ≠ w.heap.size -> g'.bQ aH o = g.bQ aH o := fun aH o hx => by show (if aH = w.heap.size then _ else _) = _; rw [if_neg hx]
 have hle : Gh.Le g g' := ⟨rfl, rfl, fun _ _ h => h, fun aH o u hu => by
  rw [hold _ _ (fun e => by subst e; rw [h.w9 (cX _)] at hu; cases hu)]; exact hu, fun _ _ h => h, fun _ h => h, fun q o hq => hold _ _ (by have := h.le; omega), fun _ _ => rfl⟩
 have hg := w.grownBy_alloc (.cells cur e) none
 refine ⟨g', hle, fun i u hu => by rw [cr, nz]; exact hu, fun o ho => by rw [nz]; simpa using ho, rfl, ?_⟩
 refine h.change w.heap.size h.le hle rfl rfl ⟨hg.os, hg.tape, hg.output, hg.size⟩ (fun k _ hk => hg.block k hk (by simp)) (fun q o hq => hold q o hq) (fun _ _ => rfl) (fun o u hu => ?_) (fun es c hr => ?_) (fun b x p k1 k2 => Nat.ne_of_lt (h.uF k1 k2)) (h.A6 (cX _))
 · rw [nz] at hu
   have Zh : cur[o]? = some u := by
    rw [<- jc, hc, sK (by
     rcases eM o vs.length with h | h
     · exact h
     · simp [mN h] at hu)]
    exact hu
   exact ⟨by rw [cell_of_row _ _ _ cur e (0, 0) (heap_alloc_new w _)]; exact Zh, h1 u (fO (by rw [jc]; exact Zh))⟩
 · have : g.bL w.heap.size = some (es, c) := hr
   rw [h.uo (cX _)] at this; cases this
theorem aZ.kV {g : Gh} {U : St} {w : World} (h : aZ g U w) {r : Nat} {c : Array Value} {e : TypeId} {f : Nat × Nat} (hh : w.heap[r]? = some (.cells c e f)) : g.bL r = none := by
 cases e : g.bL r with
 | none => rfl
 | some x => have := (h.bL r x.1 x.2 e).1; rw [hh] at this; cases this
theorem aZ.setRow {g : Gh} {U : St} {w : World} (h : aZ g U w) {b : Nat} {l l' : List AV} {x : Place} (hb : U.box b = some l) (hx : g.box b = some x)
 (cur : Array Value) (vs rest : List Value) (dD : cur.size = x.size) (hc : cur.toList = vs ++ rest) (hl : aE g l' vs) (h1 : ∀ u ∈ cur.toList, u.oneCell' = true) :
 aZ g (U.bU b l') (w.setRow x.aH cur) := by
 obtain ⟨x', UA, vs0, YG, k1, k2, k3, k4, k5, k6, k7, k8⟩ := h.box b l hb
 rw [hx] at k1; cases k1
 obtain ⟨y, hy, _⟩ := St.qG hb
 exact h.rewrite hy hx ⟨rfl, rfl, rfl, by simp⟩ (fun k hk _ => setRow_other _ _ _ _ hk) k8 (h.kV k3) ⟨cur, vs, rest, setRow_heap w x.aH UA cur x.e (0, 0) k3, dD, hc, hl, h1, k8⟩
theorem aZ.YF {g : Gh} {U : St} {w : World} (h : aZ g U w) {b : Nat} {l : List AV} (hb : U.box b = some l) : aZ g (U.bU b l) w := by
 obtain ⟨y, hy, VI⟩ := St.qG hb
 obtain ⟨p, h1, h2, hp⟩ := h.live b _ hy
 obtain ⟨cur, vs, rest, h3, h4, h5, h6, h7, h8⟩ := VI _ _ _ hp
 exact h.rewrite hy h1 ⟨rfl, rfl, rfl, cX _⟩ (fun _ _ _ => rfl) h8 (h.kV h3) ⟨cur, vs, rest, h3, h4, h5, h6, h7, h8⟩
theorem AR {cur cur' : Array Value} {a : Nat} {news : List Value} (ha : a <= cur.size) (Gg : cur'.toList = cur.toList.take a ++ news ++ cur.toList.drop (a + news.length)) (o : Nat) :
 cur'[o]? = if o < a then cur[o]? else if o < a + news.length then news[o - a]? else cur[o]? := by
 rw [<- jc, Gg, nI]
 have hl : (cur.toList.take a).length = a := by simp; omega
 by_cases h1 : o < a
 · rw [if_pos h1, sK (by omega), List.getElem?_take, if_pos h1, jc]
 · rw [if_neg h1, List.getElem?_append_right (by omega), hl]
   by_cases h2 : o < a + news.length
   · rw [if_pos h2, sK (by omega)]
   · rw [if_neg h2, List.getElem?_append_right (by omega), List.getElem?_drop, jc]
     congr 1; omega
theorem aZ.WL {g : Gh} {U : St} {w : World} (h : aZ g U w) {τ : Nat} {t : Tok} {aH c : Nat} (ht : U.tok τ = some t) (hg : g.tok τ = some (aH, c))
 (cur cur' : Array Value) (news : List Value) (m : Nat) (Hu : w.heap[aH]? = some (.cells cur t.e (0, 0))) (hlen : news.length = m * t.size) (mH : t.n + m <= c)
 (Gg : cur'.toList = cur.toList.take (t.n * t.size) ++ news ++ cur.toList.drop (t.n * t.size + news.length)) (h1 : ∀ u ∈ news, u.oneCell' = true) :
 ∃ rA g', (U.del τ).cY rA /\ Gh.Le g g' /\ g'.tok rA = some (aH, c) /\ jv g' aH (t.n * t.size) news /\ aZ g' ((U.del τ).new rA (.tok ⟨t.n + m, t.e, t.size⟩)) (w.setRow aH cur') := by
 obtain ⟨p, hp, Gp, ZF⟩ := Gh.iM.1 hg
 dsimp only at Gp ZF
 subst Gp ZF
 obtain ⟨p', k1, k2, UA, k3, k4, k5, k6, k7⟩ := h.live τ _ (St.iM.1 ht)
 rw [hp] at k1; cases k1
 rw [Hu] at k3; cases k3
 have qM : (t.n + m) * t.size <= cur.size := by rw [k4]; exact Nat.mul_le_mul_right _ mH
 have BE : (t.n + m) * t.size = t.n * t.size + news.length := by rw [hlen, Nat.add_mul]
 have dD : cur'.size = cur.size := by
  have := congrArg List.length Gg
  simp only [pT, eU, List.length_take, List.length_drop] at this
  omega
 let g' : Gh := { g with bQ := fun q o => if q = p.aH /\ t.n * t.size <= o /\ o < t.n * t.size + news.length then news[o - t.n * t.size]? else g.bQ q o }
 have ly : ∀ q o, q ≠ p.aH -> g'.bQ q o = g.bQ q o := fun q o hq => by
  show (if _ then _ else _) = _
  rw [if_neg (fun e => hq e.1)]
 have hle : Gh.Le g g' := ⟨rfl, rfl, fun _ _ h => h, fun q o u hu => by
  show (if _ then _ else _) = _
  rw [if_neg (fun e => by obtain ⟨rfl, e2, _⟩ := e; rw [k7 o e2] at hu; cases hu)]; exact hu, fun _ _ h => h, fun _ h => h, fun q o hq => ly _ _ (by omega), fun _ _ => rfl⟩
 have uk := setRow_heap w p.aH cur cur' t.e (0, 0) Hu
 have pR := fun o => AR (cur := cur) (cur' := cur') (a := t.n * t.size) (news := news) (by omega) Gg o
 have fT : ∀ b' x' p', (U.del τ).live b' = some x' -> g.place b' = some p' -> p'.aH ≠ p.aH := fun b' x' p' h1 h2 e => by
  simp only [St.del] at h1
  split at h1
  · cases h1
  · rename_i ne; exact ne (h.apart _ _ _ _ _ _ h1 (St.iM.1 ht) h2 hp e)
 have hs := (h.weaken (St.qI U τ)).change (w' := w.setRow p.aH cur') p.aH k2 hle rfl rfl ⟨rfl, rfl, rfl, by simp⟩ (fun k hk _ => setRow_other _ _ _ _ hk) ly (fun _ _ => rfl) (fun o u hu => by
  rw [cell_of_row _ _ _ cur' t.e (0, 0) uk, pR]
  have mE : (if p.aH = p.aH /\ t.n * t.size <= o /\ o < t.n * t.size + news.length then news[o - t.n * t.size]? else g.bQ p.aH o) = some u := hu
  by_cases ho : o < t.n * t.size
  · rw [if_pos ho]
    rw [if_neg (by omega)] at mE
    have := h.bQ _ _ _ mE
    rw [cell_of_row _ _ _ cur t.e (0, 0) Hu] at this
    exact this
  · rw [if_neg ho]
    by_cases Qt : o < t.n * t.size + news.length
    · rw [if_pos Qt]
      rw [if_pos ⟨rfl, by omega, Qt⟩] at mE
      exact ⟨mE, h1 u (fO mE)⟩
    · rw [if_neg (by omega)] at mE
      rw [k7 o (by omega)] at mE; cases mE) (fun es c hr => by
  have hr : g.bL p.aH = some (es, c) := hr
  rw [h.kV Hu] at hr; cases hr) fT (h.rj (St.iM.1 ht) hp)
 obtain ⟨rA, f1, f2, f3⟩ := hs.newName p k2 fT
 refine ⟨rA, _, f1, hle.trans f2, Gh.iM.2 ⟨p, Gh.ic _ _ _, rfl, rfl⟩, fun i u hu => ?_, f3 _ ⟨cur', uk, by rw [dD]; exact k4, mH, k6, fun o ho => ?_⟩⟩
 · have hi : i < news.length := by
    rcases eM i news.length with h | h
    · exact h
    · simp [mN h] at hu
   show (if _ then _ else _) = _
   rw [if_pos ⟨rfl, by omega, by omega⟩, Nat.add_sub_cancel_left]; exact hu
 · have ho : (t.n + m) * t.size <= o := ho
   show (if _ then _ else _) = _
   rw [if_neg (by omega)]; exact k7 o (by omega)
theorem aZ.rename {g : Gh} {U : St} {w : World} (h : aZ g U w) {b : Nat} {x : Live} {p : Place} (hb : U.live b = some x) (hp : g.place b = some p) :
 ∃ b' g', (U.del b).cY b' /\ Gh.Le g g' /\ g'.place b' = some p /\ aZ g' ((U.del b).new b' x) w := by
 obtain ⟨p', k1, k2, k3⟩ := h.live b x hb
 rw [hp] at k1; cases k1
 obtain ⟨b', f1, f2, f3⟩ := (h.weaken (St.qI U b)).newName p k2 (fun b' x' p' h1 h2 e => by
  simp only [St.del] at h1
  split at h1
  · cases h1
  · rename_i ne; exact ne (h.apart _ _ _ _ _ _ h1 hb h2 hp e))
 exact ⟨b', _, f1, f2, Gh.ic _ _ _, f3 x (k3.frame f2.r rfl (fun _ => rfl) rfl)⟩
theorem aZ.kY {g : Gh} {U : St} {w : World} (h : aZ g U w) (e : TypeId) (size n c : Nat) (cur : Array Value) (vs rest : List Value) (hc : cur.toList = vs ++ rest) (h1 : ∀ u ∈ cur.toList, u.oneCell' = true)
 (wg : vs.length = n * size) (qM : cur.size = c * size) (BD : n <= c) (th : c <= maxLen) :
 ∃ τ g', U.cY τ /\ Gh.Le g g' /\ g'.tok τ = some (w.heap.size, c) /\ jv g' w.heap.size 0 vs /\ aZ g' (U.new τ (.tok ⟨n, e, size⟩)) (w.alloc (.cells cur e)) := by
 obtain ⟨g1, Dt, ly, fT, oS, hs⟩ := h.Kb e cur vs rest hc h1
 obtain ⟨τ, f1, f2, f3⟩ := hs.newName ⟨w.heap.size, e, c⟩ (by rw [Dt.base]; exact h.le) (fun b' x' p' k1 k2 => by rw [oS] at k2; exact Nat.ne_of_lt (h.uF k1 k2))
 exact ⟨τ, _, f1, Dt.trans f2, Gh.iM.2 ⟨_, Gh.ic _ _ _, rfl, rfl⟩, ly, f3 _ ⟨cur, heap_alloc_new w _, qM, BD, th, fun o ho => fT o (by rw [wg]; exact ho)⟩⟩
theorem aZ.freeze {g : Gh} {U : St} {w : World} (h : aZ g U w) {b : Nat} {l : List AV} {x : Place} (hb : U.box b = some l) (hx : g.box b = some x) :
 ∃ g' vs, Gh.Le g g' /\ g'.place = g.place /\ jv g' x.aH 0 vs /\ aE g l vs /\ aZ g' (U.del b) w := by
 obtain ⟨x', cur, vs, rest, k1, k2, k3, k4, k5, k6, k7, k8⟩ := h.box b l hb
 rw [hx] at k1; cases k1
 let g' : Gh := { g with bQ := fun q o => if q = x.aH then cur[o]? else g.bQ q o }
 have nz : ∀ o, g'.bQ x.aH o = cur[o]? := fun o => by show (if x.aH = x.aH then _ else _) = _; rw [if_pos rfl]
 have hold : ∀ q o, q ≠ x.aH -> g'.bQ q o = g.bQ q o := fun q o hq => by show (if q = x.aH then _ else _) = _; rw [if_neg hq]
 have hle : Gh.Le g g' := ⟨rfl, rfl, fun _ _ h => h, fun q o u hu => by
  rw [hold _ _ (fun e => by subst e; rw [k8] at hu; cases hu)]; exact hu, fun _ _ h => h, fun _ h => h, fun q o hq => hold _ _ (by omega), fun _ _ => rfl⟩
 refine ⟨g', vs, hle, rfl, fun i u hu => by
  have hi : i < vs.length := by
   rcases eM i vs.length with h | h
   · exact h
   · simp [mN h] at hu
  rw [cr, nz, <- jc, k5, sK hi]; exact hu, k6, ?_⟩
 obtain ⟨y, hy, _⟩ := St.qG hb
 refine (h.weaken (St.qI U b)).change x.aH k2 hle rfl rfl ⟨rfl, rfl, rfl, cX _⟩ (fun _ _ _ => rfl) hold (fun _ _ => rfl) (fun o u hu => ?_) (fun es c hr => ?_) (fun b' x' p' h1 h2 e => ?_) (h.rj hy hx)
 · rw [nz] at hu
   rw [cell_of_row _ _ _ cur x.e (0, 0) k3]
   exact ⟨hu, k7 u (fO (by rw [jc]; exact hu))⟩
 · have hr : g.bL x.aH = some (es, c) := hr
   rw [h.kV k3] at hr; cases hr
 · simp only [St.del] at h1
   split at h1
   · cases h1
   · rename_i ne; exact ne (h.apart _ _ _ _ _ _ h1 hy h2 hx e)
theorem aZ.KJ {g : Gh} {U : St} {w : World} (h : aZ g U w) {m r : Nat} {kv kv' : List AV × List AV} {es tb : Array MapEntry} {clock s0 : Nat} (hm : U.mp m = some kv) (hg : g.mp m = some r) (hh : w.heap[r]? = some (.map es clock))
 (h1 : tT g kv'.1 kv'.2 tb) (h2 : iN tb s0) :
 aZ g (U.YN m kv') { w with heap := w.heap.setIfInBounds r (Obj.map tb s0) } := by
 obtain ⟨p, hp, rfl⟩ := Gh.nc.1 hg
 obtain ⟨p', k1, k2, es0, cl0, k3, k4, k5, k6⟩ := h.live m _ (St.nc.1 hm)
 rw [hp] at k1; cases k1
 have aJ := (jb.1 hh).1
 have bW : ∀ k, k ≠ p.aH -> (w.heap.setIfInBounds p.aH (Obj.map tb s0))[k]? = w.heap[k]? := fun k hk => Array.getElem?_setIfInBounds_ne (Ne.symm hk)
 have nz : (w.heap.setIfInBounds p.aH (Obj.map tb s0))[p.aH]? = some (Obj.map tb s0) := by simp [aJ]
 exact h.rewrite (St.nc.1 hm) hp ⟨rfl, rfl, rfl, by simp⟩ (fun k hk _ => bW k hk) (fun o => by
  cases e : g.bQ p.aH o with
  | none => rfl
  | some u => have := (h.bQ _ _ _ e).1; simp [World.cell?, hh] at this) k6 ⟨tb, s0, nz, h2, h1, k6⟩
theorem aZ.shut {g : Gh} {U : St} {w : World} (h : aZ g U w) {r : Nat} (hr : g.res r = true) : aZ { g with res := fun x => if x = r then false else g.res x } U { w with heap := w.heap.setIfInBounds r (Obj.deferred none) } := by
 obtain ⟨k2, hh⟩ := h.res r hr
 have bW : ∀ k, k ≠ r -> (w.heap.setIfInBounds r (Obj.deferred none))[k]? = w.heap[k]? := fun k hk => Array.getElem?_setIfInBounds_ne (Ne.symm hk)
 have hl : Gh.qE g { g with res := fun x => if x = r then false else g.res x } := ⟨fun _ _ h => h, fun _ _ _ h => h, fun _ _ h => h⟩
 exact {
  below := h.below.trans ⟨rfl, rfl, rfl, by simp, fun k hk => bW k (by have := h.le; omega)⟩
  le := by simpa using h.le
  bQ := fun aH o u hi => by
   have iu := h.bQ _ _ _ hi
   have : World.cell? { w with heap := w.heap.setIfInBounds r (Obj.deferred none) } ⟨aH, o, none⟩ = w.cell? ⟨aH, o, none⟩ := by
    simp only [World.cell?]
    rw [bW aH (fun e => by subst e; simp [World.cell?, hh] at iu)]
   rw [this]; exact iu
  bL := fun r' es c hr => by
   obtain ⟨h1, h2⟩ := h.bL r' es c hr
   refine ⟨?_, h2⟩
   show (w.heap.setIfInBounds r (Obj.deferred none))[r']? = _
   rw [bW r' (fun e => by subst e; rw [hh] at h1; cases h1)]; exact h1
  live := fun b x hb => by
   obtain ⟨p, h1, h2, h3⟩ := h.live b x hb
   exact ⟨p, h1, h2, h3.frame hl (bW _ (h3.GC hh)) (fun _ => rfl) rfl⟩
  apart := h.apart
  res := fun r' qU => by
   have qU : (if r' = r then false else g.res r') = true := qU
   split at qU
   · cases qU
   · rename_i e
     obtain ⟨q1, q2⟩ := h.res r' qU
     exact ⟨q1, by show (w.heap.setIfInBounds r (Obj.deferred none))[r']? = _; rw [bW r' e]; exact q2⟩
  fin := h.fin }
theorem aZ.Sd {g : Gh} {U : St} {w : World} (h : aZ g U w) : Gh.Le g { g with res := fun x => if x = w.heap.size then true else g.res x } /\ aZ { g with res := fun x => if x = w.heap.size then true else g.res x } U (w.alloc (.deferred (some []))) := by
 have hl : Gh.qE g { g with res := fun x => if x = w.heap.size then true else g.res x } := ⟨fun _ _ h => h, fun _ _ _ h => h, fun _ _ h => h⟩
 refine ⟨⟨rfl, rfl, fun _ _ h => h, fun _ _ _ h => h, fun _ _ h => h, fun b hb => by show (if _ then _ else _) = _; split <;> simp_all, fun _ _ _ => rfl, fun _ _ => rfl⟩, ?_⟩
 have hs := h.grow (w.grownBy_alloc (.deferred (some [])) none)
 exact {
  below := hs.below
  le := hs.le
  bQ := hs.bQ
  bL := hs.bL
  live := fun b x hb => by
   obtain ⟨p, h1, h2, h3⟩ := hs.live b x hb
   exact ⟨p, h1, h2, h3.frame hl rfl (fun _ => rfl) rfl⟩
  apart := hs.apart
  res := fun r hr => by
   have hr : (if r = w.heap.size then true else g.res r) = true := hr
   split at hr
   · rename_i e; subst e; exact ⟨h.le, heap_alloc_new w _⟩
   · exact hs.res r hr
  fin := hs.fin }
end Go.Rip
namespace Go.Rip
open Go.RowKit
def jK : Value -> Option AV
 | .bool b => some (.bool b)
 | .int k n => some (.int k n)
 | .string s => some (.str s.data.toList)
 | .pointer none => some .a8
 | .slice none 0 0 => some .al
 | .map none => some .ke
 | .nilFunc => some .dh
 | .nilIface => some .cW
 | _ => none
def NR : Option (List AV) -> AV
 | some l => .agg l
 | none => .any
def Bt : Value -> AV
 | .agg cs => NR (cs.toList.mapM jK)
 | .func fn f c => if f.isEmpty && c.isEmpty then .func fn [] [] else .any
 | .tuple vs => if vs.isEmpty then .aR [] else .any
 | v => (jK v).getD .any
def Av : TypeDesc -> Bool
 | .struct _ | .array _ _ => true
 | _ => false
def lA (P : Program) (t : TypeId) : Option (Bool × Nat) :=
 match P.info? t, P.underlying t with
 | some i, some d => some (Av d, i.size)
 | _, _ => none
def ny (P : Program) (t : TypeId) : Option (List AV) := ((P.info? t).bind (·.zero)).bind fun z => z.cells.toList.mapM jK
def ey (P : Program) (t : TypeId) : Option (TypeId × Nat) :=
 match P.underlying t with
 | some (.slice e) => match P.info? e with
   | some i => match i.zero with
     | some z => if z.cells.size = i.size /\ 0 < i.size /\ i.bytes <= 32768 /\ z.cells.all (·.oneCell') then some (e, i.size) else none
     | none => none
   | none => none
 | _ => none
def vP (P : Program) (s : TypeId) (f : Nat) : Option Nat :=
 match P.underlying s with
 | some (.struct fields) => match fields[f]? with
   | some x => if P.cellsOf x.type ≠ 0 then some x.offset else none
   | none => none
 | _ => none
def xn (P : Program) (t : TypeId) : Option (List (Nat × Nat)) :=
 match P.underlying t with
 | some (.struct fields) => if fields.all (fun f => (P.info? f.type).isSome) then some (fields.toList.map fun f => (f.offset, P.cellsOf f.type)) else none
 | _ => none
def eg (P : Program) (f : FuncId) : Bool :=
 match P.funcs[f]? with
 | some fn => fn.body.isSome && !(fn.name == "runtime.NumGoroutine")
 | none => false
structure cw where
 P : Program
 vS : Nat -> AV
 fixed : Nat -> Option (Array Value) := fun _ => none
def fU (C : cw) (g : Gh) : Prop := (∀ i, az g (C.vS i) (.pointer (some ⟨i, 0, none⟩))) /\ ∀ i cs, C.fixed i = some cs -> i < g.base /\ ∃ t fr, g.w0.heap[i]? = some (.cells cs t fr)
theorem fU.mono {C : cw} {g g' : Gh} (h : fU C g) (hl : Gh.Le g g') : fU C g' := ⟨fun i => (h.1 i).mono hl, fun i cs hi => by rw [hl.base, hl.w0]; exact h.2 i cs hi⟩
structure Env where
 get : Nat -> AV
def Env.put (ρ : Env) (d : Nat) (v : AV) : Env := ⟨fun t => if t = d then v else ρ.get t⟩
def Env.ep (ρ : Env) : Option Nat -> AV -> Env
 | some d, v => ρ.put d v
 | none, _ => ρ
def Env.ev (C : cw) (ρ : Env) : Operand -> AV
 | .tmp t => ρ.get t
 | .const v => Bt v
 | .global g => C.vS g
 | .func f => .func (.func f) [] []
def fA (g : Gh) (ρ : Env) (tmps : Array Value) : Prop := ∀ t, az g (ρ.get t) (tmps.getD t undef)
theorem fA.mono {g g' : Gh} (h : Gh.Le g g') {ρ : Env} {tmps : Array Value} (hr : fA g ρ tmps) : fA g' ρ tmps := fun t => (hr t).mono h
theorem fA.put {g : Gh} {ρ : Env} {tmps : Array Value} (hr : fA g ρ tmps) {d : Nat} {x : AV} {v : Value} (hd : d < tmps.size) (hx : az g x v) : fA g (ρ.put d x) (tmps.setIfInBounds d v) := fun t => by
 simp only [Env.put]
 by_cases ht : t = d
 · subst ht
   rw [if_pos rfl]
   simpa [Array.getD, hd] using hx
 · rw [if_neg ht]
   have := hr t
   simp only [Array.getD_eq_getD_getElem?] at this ⊢
   rw [Array.getElem?_setIfInBounds_ne (Ne.symm ht)]
   exact this
theorem wx {g : Gh} {v : Value} {x : AV} (h : jK v = some x) : az g x v /\ v.oneCell' = true := by
 unfold jK at h
 split at h <;> first
  | (cases h; simp [az, Value.oneCell']; done)
  | cases h
theorem dV {g : Gh} : ∀ {vs : List Value} {l : List AV}, vs.mapM jK = some l -> aE g l vs /\ ∀ u ∈ vs, u.oneCell' = true
 | [], l, h => by
   simp at h; subst h; simp [aE]
 | v :: vs, l, h => by
   simp only [List.mapM_cons, bind, Option.bind_eq_some_iff, pure, gD] at h
   obtain ⟨x, hx, l', BC, rfl⟩ := h
   obtain ⟨h1, h2⟩ := wx (g := g) hx
   obtain ⟨h3, h4⟩ := dV (g := g) BC
   refine ⟨by simp only [aE]; exact ⟨v, vs, rfl, h1, h3⟩, fun u hu => ?_⟩
   simp only [dS] at hu
   rcases hu with rfl | hu
   · exact h2
   · exact h4 u hu
theorem Im {g : Gh} (v : Value) : az g ((jK v).getD .any) v := by
 cases h : jK v with
 | none => simp only [Option.getD_none, az]
 | some x => exact (wx h).1
theorem AE {g : Gh} (v : Value) : az g (Bt v) v := by
 cases v with
 | agg cs =>
   simp only [Bt]
   cases h : cs.toList.mapM jK with
   | none => simp only [NR, az]
   | some l => simp only [NR, az]; exact ⟨cs.toList, by simp, (dV (g := g) h).2, (dV h).1⟩
 | func fn f c =>
   simp only [Bt]
   split
   · rename_i h
     simp only [bR, Array.isEmpty_iff] at h
     obtain ⟨rfl, rfl⟩ := h
     simp only [az]; exact ⟨[], [], rfl, by simp [aE], by simp [aE]⟩
   · simp only [az]
 | tuple vs =>
   simp only [Bt]
   split
   · rename_i h
     simp only [Array.isEmpty_iff] at h
     subst h
     simp only [az]; exact ⟨[], rfl, by simp [aE]⟩
   · simp only [az]
 | _ => simp only [Bt]; exact Im _
theorem qK {C : cw} {g : Gh} (hG : fU C g) {ρ : Env} {a : Act} (hr : fA g ρ a.tmps) (x : Operand) : az g (ρ.ev C x) (a.eval x) := by
 cases x with
 | tmp t => exact hr t
 | const v => exact AE v
 | global i => exact hG.1 i
 | func f => simp only [Env.ev, Act.eval, az]; exact ⟨[], [], rfl, by simp [aE], by simp [aE]⟩
inductive NV where
 | box
 | tok (n : Nat) (l : List AV)
 | ms (n gN : Nat) (e : TypeId)
 | mp
 | it
def NV.at (b : Nat) : NV -> AV
 | .box => .box b 0
 | .tok n l => .vec n (.own b) l
 | .ms n gN e => .ms b 0 n gN e
 | .mp => .mp b
 | .it => .it b
inductive au where
 | val (v : AV)
 | jQ (v : AV) (b : Nat) (x : Live)
 | new (k : NV) (del : Option Nat) (x : Live)
 | jz (b : Nat) (l : List (AV × Live))
 | enter (f : FuncId) (args : List AV)
 | yield (l : Nat) (args : List AV)
 | panic (v : AV)
 | cond (p : Prop) [d : Decidable p] (r : au)
 | bad
abbrev au.cq (l : List AV) : au := .new .box none (.box l)
abbrev au.kY (n : Nat) (l : List AV) (del : Option Nat) (t : Tok) : au := .new (.tok n l) del (.tok t)
abbrev au.mq (n gN : Nat) (e : TypeId) (del : Option Nat) (l : List AV) : au := .new (.ms n gN e) del (.box l)
abbrev au.CA : au := .new .mp none (.mp [] [])
def St.pQ (U : St) : Option Nat -> St
 | some b => U.del b
 | none => U
def au.Fits (C : cw) (g : Gh) (U : St) : au -> Result Next -> Prop
 | .val v, res => ∃ u w' g', (res = .ok (.value u) w' \/ (res = .ok .skip w' /\ u = undef)) /\ Gh.Le g g' /\ aZ g' U w' /\ az g' v u
 | .jQ v b x, res => ∃ u w' g', (res = .ok (.value u) w' \/ (res = .ok .skip w' /\ u = undef)) /\ Gh.Le g g' /\ aZ g' (U.set b x) w' /\ az g' v u
 | .new k del x, res => ∃ u w' g' b, res = .ok (.value u) w' /\ (U.pQ del).cY b /\ Gh.Le g g' /\ aZ g' ((U.pQ del).new b x) w' /\ az g' (k.at b) u
 | .jz b l, res => ∃ u w' g' v x, res = .ok (.value u) w' /\ (v, x) ∈ l /\ Gh.Le g g' /\ aZ g' (U.set b x) w' /\ az g' v u
 | .enter f args, res => ∃ vs w', res = .ok (.enter f (List.toArray vs)) w' /\ aZ g U w' /\ aE g args vs
 | .yield o args, res => ∃ vs x w w', g.place o = some x /\ res = (Instr.yield x.aH (List.toArray vs)).run C.P w /\ w' = w /\ aZ g U w /\ aE g args vs
 | .panic v, res => ∃ u w', res = .halt (.panic u) w' /\ aZ g U w' /\ az g v u
 | @au.cond p _ r, res => p -> r.Fits C g U res
 | .bad, _ => True
theorem aU {C : cw} {g : Gh} {U : St} {w : World} {v : AV} {u : Value} (h : aZ g U w) (hr : az g v u) : au.Fits C g U (.val v) (.ok (.value u) w) :=
 ⟨u, w, g, .inl rfl, Gh.Le.refl g, h, hr⟩
def u9 (n : Int) : Prop := -9223372036854775808 <= n /\ n <= 9223372036854775807
instance (n : Int) : Decidable (u9 n) := inferInstanceAs (Decidable (_ /\ _))
theorem u5 {n : Int} (h : u9 n) : IntKind.i64.wrap n = n := by
 obtain ⟨h1, h2⟩ := h
 have e : IntKind.i64.wrap n = if n % 18446744073709551616 >= 9223372036854775808 then n % 18446744073709551616 - 18446744073709551616 else n % 18446744073709551616 := by
  simp [IntKind.wrap, IntKind.bits, IntKind.signed]
 rw [e]
 split <;> omega
def tu (P : Program) (t : TypeId) : Bool := match P.underlying t with | some .bool => true | _ => false
def iX (P : Program) (t : TypeId) : Bool := match P.underlying t with | some (.interface _) => true | _ => false
def j6 (P : Program) (t : TypeId) : Bool := match P.underlying t with | some (.pointer _) => true | _ => false
def nC (P : Program) (t : TypeId) : Bool := match P.underlying t with | some (.slice _) => true | _ => false
def gn (k : IntKind) (n : Int) : au :=
 match k with
 | .i64 => .cond (u9 n) (.val (.int .i64 n))
 | k => .val (.int k (k.wrap n))
inductive FK where
 | i
 | s
 | b
def mC : List FK -> List AV -> List AV -> Option Bool
 | [], [], [] => some true
 | .i :: ks, .int k a :: xs, .int k' b :: ys => if k = k' then (mC ks xs ys).map fun r => (a == b) && r else none
 | .s :: ks, .str a :: xs, .str b :: ys => (mC ks xs ys).map fun r => (a == b) && r
 | .b :: ks, .bool a :: xs, .bool b :: ys => (mC ks xs ys).map fun r => (a == b) && r
 | _, _, _ => none
def I8 (P : Program) (f : Field) (i : Nat) : Option FK :=
 if f.offset = i /\ f.name ≠ "_" then
  match P.underlying f.type with
  | some .bool => some .b
  | some (.int _) => some .i
  | some .string => some .s
  | _ => none
 else none
def tc (P : Program) : List Field -> Nat -> Option (List FK)
 | [], _ => some []
 | f :: fs, i => match I8 P f i, tc P fs (i + 1) with
   | some k, some ks => some (k :: ks)
   | _, _ => none
def Hk (P : Program) (t : TypeId) : Option (List FK) :=
 match P.underlying t with
 | some (.struct fields) => if P.stoodInHeld t = false /\ P.eqGuardType P.depth t = false then tc P fields.toList 0 else none
 | _ => none
def F6 (P : Program) (t : TypeId) (a b : List AV) : Option Bool :=
 match Hk P t with
 | some ks => mC ks a b
 | none => none
def sV (f : Bool -> AV) : Option Bool -> au
 | some r => .val (f r)
 | none => .bad
def G6 (P : Program) (op : BinOp) (t : TypeId) (x y : AV) : au :=
 match op, x, y with
 | .add, .int k a, .int k' b => if k = k' then gn k (a + b) else .bad
 | .sub, .int k a, .int k' b => if k = k' then gn k (a - b) else .bad
 | .mul, .int k a, .int k' b => if k = k' then gn k (a * b) else .bad
 | .quo, .int k a, .int k' b => if k = k' then .cond (b ≠ 0) (gn k (a.tdiv b)) else .bad
 | .rem, .int k a, .int k' b => if k = k' then .cond (b ≠ 0) (.val (.int k (a.tmod b))) else .bad
 | .and, .int k a, .int k' b => if k = k' then .val (.int k (k.wrap (BitVec.ofInt k.bits a &&& BitVec.ofInt k.bits b).toNat)) else .bad
 | .or, .int k a, .int k' b => if k = k' then .val (.int k (k.wrap (BitVec.ofInt k.bits a ||| BitVec.ofInt k.bits b).toNat)) else .bad
 | .eql, .int k a, .int k' b => if k = k' then .val (.bool (a == b)) else .bad
 | .neq, .int k a, .int k' b => if k = k' then .val (.bool (a != b)) else .bad
 | .lss, .int k a, .int k' b => if k = k' then .val (.bool (decide (a < b))) else .bad
 | .leq, .int k a, .int k' b => if k = k' then .val (.bool (decide (a <= b))) else .bad
 | .gtr, .int k a, .int k' b => if k = k' then .val (.bool (decide (a > b))) else .bad
 | .geq, .int k a, .int k' b => if k = k' then .val (.bool (decide (a >= b))) else .bad
 | .eql, .str a, .str b => .val (.bool (a == b))
 | .neq, .str a, .str b => .val (.bool (a != b))
 | .add, .str a, .str b => .cond (a.length + b.length <= 4294967296) (.val (.str (a ++ b)))
 | .eql, .bool a, .bool b => if tu P t = true then .val (.bool (a == b)) else .bad
 | .neq, .bool a, .bool b => if tu P t = true then .val (.bool (a != b)) else .bad
 | .eql, .agg a, .agg b => sV .bool (F6 P t a b)
 | .neq, .agg a, .agg b => sV (fun r => .bool (!r)) (F6 P t a b)
 | .eql, .iface _ _, .cW => if iX P t = true then .val (.bool false) else .bad
 | .neq, .iface _ _, .cW => if iX P t = true then .val (.bool true) else .bad
 | .eql, .a8, .a8 => if j6 P t = true then .val (.bool true) else .bad
 | .eql, .box _ _, .a8 => if j6 P t = true then .val (.bool false) else .bad
 | .neq, .a8, .a8 => if j6 P t = true then .val (.bool false) else .bad
 | .neq, .box _ _, .a8 => if j6 P t = true then .val (.bool true) else .bad
 | .eql, .ck _, .a8 => if j6 P t = true then .val (.bool false) else .bad
 | .neq, .ck _, .a8 => if j6 P t = true then .val (.bool true) else .bad
 | .eql, .al, .al => if nC P t = true then .val (.bool true) else .bad
 | .eql, .vec _ _ _, .al => if nC P t = true then .val (.bool false) else .bad
 | .eql, .ms _ _ _ _ _, .al => if nC P t = true then .val (.bool false) else .bad
 | _, _, _ => .bad
def isLit : Operand -> Bool
 | .const _ => true
 | _ => false
def CZ (P : Program) (op : BinOp) (t : TypeId) (lit : Bool) (x y : AV) : au :=
 match op, x, y with
 | .eql, .cW, .cW => if iX P t = true /\ lit = true then .val (.bool true) else .bad
 | .neq, .cW, .cW => if iX P t = true /\ lit = true then .val (.bool false) else .bad
 | op, x, y => G6 P op t x y
end Go.Rip
namespace Go.Rip
open Go.RowKit
def AV.scalar : AV -> Bool
 | .agg _ | .aR _ | .any => false
 | _ => true
def ay : AV -> List AV
 | .agg l => l
 | v => [v]
theorem A8 {g : Gh} {x : AV} {v : Value} (h : az g x v) (hs : x.scalar = true) : v.oneCell' = true := by
 cases x <;> simp only [AV.scalar, bo] at hs <;> simp only [az] at h
 all_goals first
  | (subst h; rfl)
  | (obtain ⟨_, _, rfl⟩ := h; rfl)
  | (obtain ⟨_, _, _, rfl, _⟩ := h; rfl)
  | (obtain ⟨_, _, _, _, rfl, _⟩ := h; rfl)
  | (obtain ⟨_, _, _, rfl, _⟩ := h; rfl)
  | (obtain ⟨_, _, rfl, _⟩ := h; rfl)
  | (obtain ⟨_, rfl, _⟩ := h; rfl)
  | (obtain ⟨_, _, _, _, rfl, _⟩ := h; rfl)
def AV.cQ : AV -> Bool
 | .aR _ | .any => false
 | _ => true
theorem vK {g : Gh} {x : AV} {v : Value} (h : az g x v) (hs : x.cQ = true) : aE g (ay x) v.cells.toList /\ ∀ u ∈ v.cells.toList, u.oneCell' = true := by
 by_cases ha : ∃ l, x = .agg l
 · obtain ⟨l, rfl⟩ := ha
   simp only [az] at h
   obtain ⟨vs, rfl, h1, h2⟩ := h
   exact ⟨by simpa [ay, Value.cells] using h2, by simpa [Value.cells] using h1⟩
 · have Qz : x.scalar = true := by cases x <;> simp_all [AV.cQ, AV.scalar]
   have h1 := A8 h Qz
   have hc : ay x = [x] := by cases x <;> simp_all [ay]
   have hv : v.cells = #[v] := by cases v <;> simp_all [Value.cells, Value.oneCell']
   rw [hc, hv]
   exact ⟨by simp only [aE]; exact ⟨v, [], rfl, h, rfl⟩, by simpa using h1⟩
def jX (U : St) : AV -> Option (List AV)
 | .box b off => (U.box b).map (·.drop off)
 | .ck l => some l
 | _ => none
theorem po {g : Gh} {U : St} {w : World} (h : aZ g U w) {p : AV} {v : Value} {l : List AV} (hp : az g p v) (hl : jX U p = some l) :
 ∃ a vs, v = .pointer (some a) /\ a.spot = none /\ aE g l vs /\ ∀ j u, vs[j]? = some u -> w.cell? (a.add j) = some u /\ u.oneCell' = true := by
 have iV : ∀ aH off j, (⟨aH, off, none⟩ : Addr).add j = ⟨aH, off + j, none⟩ := fun aH off j => by unfold Addr.add; split <;> simp_all
 cases p <;> simp only [jX, reduceCtorEq] at hl
 · rename_i b off
   cases hb : U.box b with
   | none => simp [hb] at hl
   | some l0 =>
     simp [hb] at hl
     subst hl
     simp only [az] at hp
     obtain ⟨x, hx, rfl⟩ := hp
     obtain ⟨x', cur, vs, rest, k1, k2, k3, k4, k5, k6, k7, k8⟩ := h.box b l0 hb
     rw [hx] at k1; cases k1
     refine ⟨⟨x.aH, off, none⟩, vs.drop off, rfl, rfl, k6.drop off, fun j u hu => ?_⟩
     rw [iV, cell_of_row _ _ _ cur x.e (0, 0) k3]
     rw [List.getElem?_drop] at hu
     have aJ : off + j < vs.length := by
      rcases eM (off + j) vs.length with h | h
      · exact h
      · simp [mN h] at hu
     have : cur[off + j]? = some u := by rw [<- jc, k5, sK aJ]; exact hu
     exact ⟨this, k7 u (fO (by rw [jc]; exact this))⟩
 · cases hl
   simp only [az] at hp
   obtain ⟨aH, off, vs, rfl, hi, hr⟩ := hp
   exact ⟨⟨aH, off, none⟩, vs, rfl, rfl, hr, fun j u hu => by rw [iV]; exact h.bQ _ _ _ (hi j u hu)⟩
def gg : List AV -> au
 | x :: _ => .val x
 | [] => .bad
def rR (P : Program) (t : TypeId) (p : AV) (U : St) : au :=
 match lA P t, jX U p with
 | some (true, sz), some l => .cond (sz <= l.length) (.val (.agg (l.take sz)))
 | some (false, _), some l => gg l
 | _, _ => .bad
theorem mf {P : Program} {t : TypeId} {b : Bool} {sz : Nat} (h : lA P t = some (b, sz)) :
 ∃ i d, P.info? t = some i /\ P.underlying t = some d /\ Av d = b /\ i.size = sz := by
 unfold lA at h
 split at h
 · rename_i i d hi hd
   simp only [gD, jM] at h
   exact ⟨i, d, hi, hd, h.1, h.2⟩
 · cases h
theorem jD {P : Program} {t : TypeId} {d : TypeDesc} (h : P.underlying t = some d) (w : World) : (isAgg t).run P w = .ok (Av d) w := by
 simp only [isAgg, bN, run_underlying h, bX]
 cases d <;> rfl
theorem dW {P : Program} {t : TypeId} {i : TypeInfo} (h : P.info? t = some i) (w : World) : (sizeOf t).run P w = .ok i.size w := by
 simp [sizeOf, typeInfo, h]
section
variable {C : cw} {g : Gh} {U : St} {w : World}
theorem HS (h : aZ g U w) {t : TypeId} {p : AV} {v : Value} (hp : az g p v) : au.Fits C g U (rR C.P t p U) ((do let x <- Instr.loadAt t v; pure (Next.value x) : Sem Next).run C.P w) := by
 unfold rR
 split
 · rename_i b sz l hv hl
   obtain ⟨i, d, hi, hd, hb, dD⟩ := mf hv
   obtain ⟨a, vs, rfl, ha, hr, hc⟩ := po h hp hl
   intro hle
   have hlen := hr.length
   have fK : (loadCells a (vs.take sz).length).run C.P w = .ok (vs.take sz).toArray w :=
    run_loadCells_list (P := C.P) w a (vs.take sz) fun j u hu => by
     rw [List.getElem?_take] at hu
     split at hu
     · exact (hc j u hu).1
     · cases hu
   have pI : (vs.take sz).length = sz := by simp; omega
   rw [pI] at fK
   simp only [Instr.loadAt, Instr.sureAddr, loadVar, bN, cj, bX, jD hd, hb, if_true, dW hi, dD, fK, eu]
   have Je : ∀ u ∈ vs.take sz, u.oneCell' = true := fun u hu => by
    obtain ⟨j, hj⟩ := List.getElem?_of_mem hu
    rw [List.getElem?_take] at hj
    split at hj
    · exact (hc j u hj).2
    · cases hj
   exact aU h (by simp only [az]; exact ⟨_, rfl, Je, hr.take sz⟩)
 · rename_i b sz l hv hl
   obtain ⟨i, d, hi, hd, hb, dD⟩ := mf hv
   obtain ⟨a, vs, rfl, ha, hr, hc⟩ := po h hp hl
   cases l with
   | nil => trivial
   | cons x xs =>
     simp only [aE] at hr
     obtain ⟨u, us, rfl, h1, h2⟩ := hr
     have := (hc 0 u rfl).1
     have h0 : a.add 0 = a := by simp [Addr.add]
     rw [h0] at this
     simp only [Instr.loadAt, Instr.sureAddr, loadVar, bN, cj, bX, jD hd, hb, bo, if_false, run_load, this, eu]
     exact aU h h1
 · trivial
def aB (l : List AV) (off : Nat) (cs : List AV) : List AV := l.take off ++ cs ++ l.drop (off + cs.length)
def EE (P : Program) (t : TypeId) (p v : AV) (U : St) : au :=
 match lA P t, p with
 | some (_, sz), .box b off => match U.box b with
   | some l => .cond (v.cQ = true /\ (ay v).length = sz /\ off + sz <= l.length) (.jQ (.aR []) b (.box (aB l off (ay v))))
   | none => .bad
 | _, _ => .bad
theorem tG (h : aZ g U w) {b off : Nat} {l : List AV} {x : Place} (hb : U.box b = some l) (hx : g.box b = some x) {cs : List AV} {us : List Value} (hr : aE g cs us) (h1 : ∀ u ∈ us, u.oneCell' = true)
 (mH : off + cs.length <= l.length) : ∃ w', (storeCells ⟨x.aH, off, none⟩ us).run C.P w = .ok () w' /\ aZ g (U.bU b (aB l off cs)) w' := by
 obtain ⟨x', cur, vs, rest, k1, k2, k3, k4, k5, k6, k7, k8⟩ := h.box b l hb
 rw [hx] at k1; cases k1
 have xR := hr.length
 have pI := k6.length
 have dD : cur.size = vs.length + rest.length := by rw [<- pT, k5, eU]
 have fK := run_storeCells_at C.P x.aH off x.e us 0 cur w k3 (by omega) h1
 simp only [Nat.add_zero] at fK
 refine ⟨_, fK, ?_⟩
 have e : cur.toList.take off ++ us ++ cur.toList.drop (off + us.length) = (vs.take off ++ us ++ vs.drop (off + us.length)) ++ rest := by
  rw [k5, List.take_append_of_le_length (by omega), List.drop_append_of_le_length (by omega)]
  simp
 refine h.setRow hb hx _ (vs.take off ++ us ++ vs.drop (off + us.length)) rest ?_ (by simpa using e) ?_ ?_
 · rw [<- pT]
   have := congrArg List.length e
   simp only [eU, List.length_take, List.length_drop] at this
   simp only [eU, List.length_take, List.length_drop, pT] at this ⊢
   omega
 · unfold aB
   rw [xR]
   exact ((k6.take off).append hr).append (k6.drop _)
 · intro u hu
   simp only [eZ] at hu
   rcases hu with (hu | hu) | hu
   · exact k7 u (List.mem_of_mem_take hu)
   · exact h1 u hu
   · exact k7 u (List.mem_of_mem_drop hu)
theorem FT (h : aZ g U w) {t : TypeId} {p x : AV} {v u : Value} (hp : az g p v) (hx : az g x u) : au.Fits C g U (EE C.P t p x U) ((do Instr.storeAt t v u; pure Next.skip : Sem Next).run C.P w) := by
 unfold EE
 split
 · rename_i bb sz b off hv
   split
   · rename_i l hb
     rintro ⟨h1, h2, h3⟩
     obtain ⟨i, d, hi, hd, _, dD⟩ := mf hv
     obtain ⟨xL, xM⟩ := vK hx h1
     simp only [az] at hp
     obtain ⟨y, hy, rfl⟩ := hp
     obtain ⟨w', fK, hs⟩ := tG (C := C) h hb hy xL xM (by rw [h2]; exact h3)
     have hlen : u.cells.size = sz := by rw [<- pT, xL.length]; exact h2
     simp only [Instr.storeAt, Instr.sureAddr, storeVar, bN, cj, bX, dW hi, dD, hlen, ne_eq, not_true_eq_false, if_false, eu, fK]
     exact ⟨undef, w', g, .inr ⟨rfl, rfl⟩, Gh.Le.refl g, hs, by simp only [az]; exact ⟨[], rfl, by simp [aE]⟩⟩
   · trivial
 · trivial
def CU (t : TypeId) : List AV -> au
 | [.a8, .al] => .new .box none (.yf t [.a8, .al])
 | l => .cq l
def CT (P : Program) (t : TypeId) : au :=
 match ny P t with
 | some l => CU t l
 | none => .bad
theorem kT {P : Program} {t : TypeId} {l : List AV} (hz : ny P t = some l) : ∃ i z, P.info? t = some i /\ i.zero = some z /\ z.cells.toList.mapM jK = some l := by
 unfold ny at hz
 cases hi : P.info? t with
 | none => simp [hi] at hz
 | some i =>
   cases qV : i.zero with
   | none => simp [hi, qV] at hz
   | some z => simp [hi, qV] at hz; exact ⟨i, z, rfl, qV, hz⟩
theorem fy {P : Program} {t : TypeId} {i : TypeInfo} {z : Value} (hi : P.info? t = some i) (hz : i.zero = some z) (w : World) : (zeroValue t).run P w = .ok z w := by
 simp [zeroValue, typeInfo, hi, hz]
theorem x8 (h : aZ g U w) (e : TypeId) {l : List AV} {cur : Array Value} (hl : aE g l cur.toList) (h1 : ∀ u ∈ cur.toList, u.oneCell' = true) :
 au.Fits C g U (.cq l) (.ok (.value (.pointer (some ⟨w.heap.size, 0, none⟩))) (w.alloc (.cells cur e))) := by
 obtain ⟨b, g', hb, hle, hx, hs⟩ := h.cq e cur cur.toList [] l (by simp) hl h1
 exact ⟨_, _, g', b, rfl, hb, hle, hs, by simp only [NV.at, az]; exact ⟨_, hx, rfl⟩⟩
theorem E9 (h : aZ g U w) {t : TypeId} : au.Fits C g U (CT C.P t) ((do let x <- Instr.alloc t true (.tuple #[]); pure (Next.value x) : Sem Next).run C.P w) := by
 unfold CT
 split
 · rename_i l hz
   obtain ⟨i, z, hi, qV, hm⟩ := kT hz
   obtain ⟨h1, h2⟩ := dV (g := g) hm
   simp only [Instr.alloc, newVar, newRow, bN, cj, bX, fy hi qV, run_newObj]
   unfold CU
   split
   · have hlen := h1.length
     obtain ⟨b, g', hb, hle, hx, hs⟩ := h.qZ (.cells z.cells t) t z.cells.size (.yf t [.a8, .al]) fun g' hle hi hm => ⟨rfl, by simpa using hlen, z.cells, z.cells.toList, [], heap_alloc_new w _, rfl, by simp, h1.mono hle, h2, hi⟩
     exact ⟨_, _, g', b, rfl, hb, hle, hs, by simp only [NV.at, az]; exact ⟨_, hx, rfl⟩⟩
   · exact x8 h t h1 h2
 · trivial
def fh (v : AV) : au := .cond (v.cQ = true) (.cq (ay v))
theorem IL (h : aZ g U w) {t : TypeId} {x : AV} {u : Value} (hx : az g x u) : au.Fits C g U (fh x) ((do let y <- Instr.box t u; pure (Next.value y) : Sem Next).run C.P w) := by
 intro hl
 obtain ⟨h1, h2⟩ := vK hx hl
 simp only [Instr.box, newVar, newRow, bN, cj, bX, run_newObj]
 exact x8 h t h1 h2
def bF (x : AV) : au :=
 match x with
 | .box _ _ | .ck _ | .func (.func _) _ _ => .val x
 | _ => .bad
def ud (P : Program) (s : TypeId) (p : AV) (f : Nat) : au :=
 match vP P s f, p with
 | some o, .box b off => .val (.box b (off + o))
 | some o, .ck l => .val (.ck (l.drop o))
 | _, _ => .bad
theorem Fl {P : Program} {s : TypeId} {f o : Nat} (h : vP P s f = some o) : ∃ fs x, P.underlying s = some (.struct fs) /\ fs[f]? = some x /\ P.cellsOf x.type ≠ 0 /\ x.offset = o := by
 unfold vP at h
 split at h
 · rename_i fs hu
   split at h
   · rename_i x hx
     split at h
     · rename_i hc; cases h; exact ⟨fs, x, hu, hx, hc, rfl⟩
     · cases h
   · cases h
 · cases h
theorem uq {aH off n : Nat} {vs : List Value} (h : jv g aH off vs) : jv g aH (off + n) (vs.drop n) := fun i u hu => by
 rw [List.getElem?_drop] at hu
 have := h (n + i) u hu
 rwa [Nat.add_assoc]
theorem zi (h : aZ g U w) {s f : Nat} {p : AV} {v : Value} (hp : az g p v) : au.Fits C g U (ud C.P s p f) ((do let x <- Instr.fieldAt s v f; pure (Next.value x) : Sem Next).run C.P w) := by
 have iV : ∀ aH off j, (⟨aH, off, none⟩ : Addr).add j = ⟨aH, off + j, none⟩ := fun aH off j => by unfold Addr.add; split <;> simp_all
 have key : ∀ (o : Nat) (aH off : Nat), vP C.P s f = some o -> v = .pointer (some ⟨aH, off, none⟩) ->
  ((do let x <- Instr.fieldAt s v f; pure (Next.value x) : Sem Next).run C.P w) = .ok (.value (.pointer (some ⟨aH, off + o, none⟩))) w := fun o aH off ho hv => by
  obtain ⟨fs, x, hu, hx, hc, rfl⟩ := Fl ho
  subst hv
  obtain ⟨i, hi, hic⟩ : ∃ i, C.P.info? x.type = some i /\ i.size = C.P.cellsOf x.type := by
   cases hi : C.P.info? x.type with
   | none => simp [Program.cellsOf, hi] at hc
   | some i => exact ⟨i, rfl, by simp [Program.cellsOf, hi]⟩
  simp only [Instr.fieldAt, bN, cj, bX, run_underlying hu, hx, Instr.sureAddr, fieldPlace, dW hi, hic, if_neg hc, eu, iV]
 unfold ud
 split
 · rename_i o b off ho
   simp only [az] at hp
   obtain ⟨x, hx, hv⟩ := hp
   rw [key o x.aH off ho hv]
   exact aU h (by simp only [az]; exact ⟨x, hx, rfl⟩)
 · rename_i o l ho
   simp only [az] at hp
   obtain ⟨aH, off, vs, hv, hi, hr⟩ := hp
   rw [key o aH off ho hv]
   exact aU h (by simp only [az]; exact ⟨aH, off + o, vs.drop o, rfl, uq hi, hr.drop o⟩)
 · trivial
theorem gj {P : Program} {t e : TypeId} {sz : Nat} (h : ey P t = some (e, sz)) :
 ∃ i z, P.underlying t = some (.slice e) /\ P.info? e = some i /\ i.zero = some z /\ z.cells.size = sz /\ i.size = sz /\ 0 < sz /\ i.bytes <= 32768 /\ (∀ u ∈ z.cells.toList, u.oneCell' = true) := by
 unfold ey at h
 split at h
 · rename_i e' hu
   split at h
   · rename_i i hi
     split at h
     · rename_i z hz
       split at h
       · rename_i hc
         simp only [gD, jM] at h
         obtain ⟨rfl, rfl⟩ := h
         refine ⟨i, z, hu, hi, hz, hc.1, rfl, hc.2.1, hc.2.2.1, fun u hu => ?_⟩
         have := hc.2.2.2
         rw [Array.all_eq_true_iff_forall_mem] at this
         exact this u (by simpa using hu)
       · cases h
     · cases h
   · cases h
 · cases h
def so (P : Program) (t : TypeId) : Option (Nat × TypeId × Nat) :=
 match P.underlying t with
 | some (.array n e) => match P.info? e with
   | some i => some (n, e, i.size)
   | none => none
 | _ => none
theorem rC {P : Program} {t e : TypeId} {n sz : Nat} (h : so P t = some (n, e, sz)) : ∃ i, P.underlying t = some (.array n e) /\ P.info? e = some i /\ i.size = sz := by
 unfold so at h
 split at h
 · rename_i n' e' hu
   split at h
   · rename_i i hi
     simp only [gD, jM] at h
     obtain ⟨rfl, rfl, rfl⟩ := h
     exact ⟨i, hu, hi, rfl⟩
   · cases h
 · cases h
def IG (P : Program) (t : TypeId) (x i : AV) : au :=
 match so P t, x, i with
 | some (n, _, sz), .ck l, .int _ j => .cond (0 <= j /\ j < n) (.val (.ck (l.drop (j.toNat * sz))))
 | some (n, _, sz), .box b off, .int _ j => .cond (0 <= j /\ j < n) (.val (.box b (off + j.toNat * sz)))
 | _, _, _ => .bad
def ur (P : Program) (t : TypeId) (x i : AV) : au :=
 match ey P t, x, i with
 | none, x, i => IG P t x i
 | some (_, sz), .vec n _ l, .int _ j => .cond (0 <= j /\ j < n) (.val (.ck (l.drop (j.toNat * sz))))
 | some (_, sz), .ms b off n gN _, .int _ j => .cond (0 <= j /\ j < n /\ gN = sz) (.val (.box b (off + j.toNat * sz)))
 | _, _, _ => .bad
theorem zJ (h : aZ g U w) {t : TypeId} {x y : AV} {v u : Value} (hx : az g x v) (hy : az g y u) : au.Fits C g U (ur C.P t x y) ((do let x <- Instr.indexAt t v u; pure (Next.value x) : Sem Next).run C.P w) := by
 have iV : ∀ aH off j, (⟨aH, off, none⟩ : Addr).add j = ⟨aH, off + j, none⟩ := fun aH off j => by unfold Addr.add; split <;> simp_all
 have key : ∀ (e : TypeId) (sz : Nat) (aH off n c : Nat) (k : IntKind) (j : Int), ey C.P t = some (e, sz) -> v = .slice (some ⟨aH, off, none⟩) n c -> u = .int k j -> 0 <= j -> j < n ->
  ((do let x <- Instr.indexAt t v u; pure (Next.value x) : Sem Next).run C.P w) = .ok (.value (.pointer (some ⟨aH, off + j.toNat * sz, none⟩))) w := fun e sz aH off n c k j ho hv hu h0 h1 => by
  obtain ⟨i, z, mE, hi, hz, _, dD, _⟩ := gj ho
  subst hv hu
  simp only [Instr.indexAt, asIntOf, bN, cj, bX, run_underlying mE, h0, h1, and_self, if_true, eu, dW hi, dD, iV]
 unfold ur
 split
 · unfold IG
   split
   · rename_i n e sz l k j ha
     rintro ⟨h0, h1⟩
     obtain ⟨i, mE, hi, dD⟩ := rC ha
     simp only [az] at hx hy
     obtain ⟨aH, off, vs, rfl, iu, hr⟩ := hx
     subst hy
     simp only [Instr.indexAt, asIntOf, bN, cj, bX, run_underlying mE, Instr.sureAddr, h0, h1, and_self, if_true, eu, dW hi, dD, iV]
     exact aU h (by simp only [az]; exact ⟨aH, _, _, rfl, uq iu, hr.drop _⟩)
   · rename_i n e sz b off k j ha
     rintro ⟨h0, h1⟩
     obtain ⟨i, mE, hi, dD⟩ := rC ha
     simp only [az] at hx hy
     obtain ⟨x, hb, rfl⟩ := hx
     subst hy
     simp only [Instr.indexAt, asIntOf, bN, cj, bX, run_underlying mE, Instr.sureAddr, h0, h1, and_self, if_true, eu, dW hi, dD, iV]
     exact aU h (by simp only [az]; exact ⟨x, hb, rfl⟩)
   · trivial
 · rename_i e sz n cap l k j hs
   rintro ⟨h0, h1⟩
   simp only [az] at hx hy
   obtain ⟨aH, off, c, vs, hv, _, _, _, hi, hr⟩ := hx
   rw [key e sz aH off n c k j hs hv hy h0 h1]
   exact aU h (by simp only [az]; exact ⟨aH, _, _, rfl, uq hi, hr.drop _⟩)
 · rename_i e sz b off n gN e' k j hs
   rintro ⟨h0, h1, rfl⟩
   simp only [az] at hx hy
   obtain ⟨x, c, hb, hv, _⟩ := hx
   rw [key e gN x.aH off n c k j hs hv hy h0 h1]
   exact aU h (by simp only [az]; exact ⟨x, hb, rfl⟩)
 · trivial
def kW (P : Program) (t : TypeId) : Bool := match P.underlying t with | some .string => true | _ => false
def zI (P : Program) (t : TypeId) (x i : AV) : au :=
 match x, i with
 | .str s, .int _ j => if kW P t = true then .cond (0 <= j /\ j < s.length) (.val (.int .u8 (s.getD j.toNat 0).toNat)) else .bad
 | .agg l, .int _ j => match so P t with
   | some (n, e, sz) => match lA P e with
     | some (false, _) => .cond (0 <= j /\ j < n) (gg (l.drop (j.toNat * sz)))
     | some (true, k) => .cond (0 <= j /\ j < n /\ k = sz /\ j.toNat * sz + sz <= l.length) (.val (.agg ((l.drop (j.toNat * sz)).take sz)))
     | none => .bad
   | none => .bad
 | _, _ => .bad
theorem mZ {P : Program} {t : TypeId} (h : kW P t = true) : P.underlying t = some .string := by
 unfold kW at h
 split at h
 · assumption
 · cases h
theorem Fv (h : aZ g U w) {t : TypeId} {x y : AV} {v u : Value} (hx : az g x v) (hy : az g y u) : au.Fits C g U (zI C.P t x y) ((do let x <- Instr.index t v u; pure (Next.value x) : Sem Next).run C.P w) := by
 unfold zI
 split
 · rename_i s k j
   split
   · rename_i ht
     rintro ⟨h0, h1⟩
     simp only [az] at hx hy
     subst hx hy
     have hj : j.toNat < s.length := by omega
     have e : (ByteArray.mk s.toArray)[j.toNat]? = some (s.getD j.toNat 0) := by
      have dD : (ByteArray.mk s.toArray).size = s.length := by simp [ByteArray.size]
      rw [getElem?_pos _ _ (by rw [dD]; exact hj)]
      simp [sJ, js hj]
      rfl
     simp only [Instr.index, asIntOf, bN, cj, bX, run_underlying (mZ ht), h0, if_true, e]
     exact aU h (by simp only [az])
   · trivial
 · rename_i l k j
   split
   · rename_i n e sz ha
     obtain ⟨i, mE, hi, dD⟩ := rC ha
     simp only [az] at hx hy
     subst hy
     obtain ⟨vs, rfl, Je, hr⟩ := hx
     split
     · rename_i sz' hv
       obtain ⟨i', d, iu, hd, hb, _⟩ := mf hv
       rintro ⟨h0, h1⟩
       cases hl : l.drop (j.toNat * sz) with
       | nil => trivial
       | cons z zs =>
         have hz : l[j.toNat * sz]? = some z := by
          have := congrArg (fun l => l[0]?) hl
          simpa using this
         obtain ⟨u, zF, VL⟩ := hr.get hz
         have e1 : vs.toArray[j.toNat * sz]? = some u := by simpa using zF
         simp only [Instr.index, asIntOf, bN, cj, bX, run_underlying mE, h0, h1, and_self, if_true, eu, dW hi, dD, part, jD hd, hb, bo, if_false, e1]
         exact aU h VL
     · rename_i k' hv
       obtain ⟨i', d, iu, hd, hb, hk⟩ := mf hv
       rw [hi] at iu; cases iu
       rintro ⟨h0, h1, rfl, h2⟩
       simp only [Instr.index, asIntOf, bN, cj, bX, run_underlying mE, h0, h1, and_self, if_true, eu, dW hi, dD, part, jD hd, hb]
       refine aU h ?_
       simp only [az]
       refine ⟨(vs.drop (j.toNat * k')).take k', ?_, fun u hu => Je u (List.mem_of_mem_drop (List.mem_of_mem_take hu)), (hr.drop _).take _⟩
       congr 1
       apply Array.ext'
       simp [List.extract_eq_take_drop]
     · trivial
   · trivial
 · trivial
end
end Go.Rip
namespace Go.Rip
open Go.RowKit
section
variable {C : cw} {g : Gh} {U : St} {w : World}
theorem oJ {P : Program} {d : Nat} : ∀ (fs : List Field) (i : Nat) (ks : List FK) (xs ys : List AV) (us vs : Array Value) (r : Bool), tc P fs i = some ks -> mC ks xs ys = some r ->
 aE g xs (us.toList.drop i) -> aE g ys (vs.toList.drop i) -> (Op.eqFields (d + 1) us vs fs).run P w = .ok r w
 | [], i, ks, xs, ys, us, vs, r, hk, he, _, _ => by
   simp only [tc, gD] at hk
   subst hk
   cases xs <;> cases ys <;> simp only [mC, reduceCtorEq, gD] at he
   subst he
   simp [Op.eqFields]
 | f :: fs, i, ks, xs, ys, us, vs, r, hk, he, hx, hy => by
   simp only [tc] at hk
   split at hk
   · rename_i k ks' hf Jq
     simp only [gD] at hk
     subst hk
     unfold I8 at hf
     split at hf
     · rename_i hc
       obtain ⟨ho, hn⟩ := hc
       have Qv : ∀ (us : Array Value) (u : Value), us[i]? = some u -> ∀ dd, P.underlying f.type = some dd -> Av dd = false -> (part f.type us f.offset).run P w = .ok u w := fun us u hu dd hd ha => by
        simp only [part, bN, jD hd, bX, ha, bo, if_false, ho, hu, cj, eu]
       have ml : ∀ {xs : List AV} {x : AV} {us : Array Value}, aE g (x :: xs) (us.toList.drop i) -> ∃ u, us[i]? = some u /\ az g x u /\ aE g xs (us.toList.drop (i + 1)) := fun {xs x us} h => by
        simp only [aE] at h
        obtain ⟨u, rest, e, h1, h2⟩ := h
        refine ⟨u, ?_, h1, ?_⟩
        · have := congrArg (fun l => l[0]?) e
          simpa using this
        · have := congrArg (List.drop 1) e
          rw [List.drop_drop] at this
          rw [this]; simpa using h2
       have wa : ∀ (u v : Value) (q r' : Bool) (dd : TypeDesc), us[i]? = some u -> vs[i]? = some v -> P.underlying f.type = some dd -> Av dd = false -> (Op.equalIn (d + 1) f.type u v).run P w = .ok q w ->
        (Op.eqFields (d + 1) us vs fs).run P w = .ok r' w -> (Op.eqFields (d + 1) us vs (f :: fs)).run P w = .ok (q && r') w := fun u v q r' dd hu hv hd ha heq aaI => by
        simp only [Op.eqFields, if_pos hn, bN, Qv us u hu dd hd ha, Qv vs v hv dd hd ha, bX, heq, eu, cj, aaI]
        cases q <;> simp
       split at hf
       · rename_i hd
         cases hf
         cases xs with
         | nil => simp [mC] at he
         | cons x xs =>
           cases ys with
           | nil => cases x <;> simp [mC] at he
           | cons y ys =>
             cases x <;> cases y <;> simp only [mC, reduceCtorEq] at he
             cases hr : mC ks' xs ys with
             | none => simp [hr] at he
             | some r' =>
               simp [hr] at he
               subst he
               obtain ⟨u, hu, BJ, gP⟩ := ml hx
               obtain ⟨v, hv, BK, DN⟩ := ml hy
               simp only [az] at BJ BK
               subst BJ BK
               have := wa _ _ _ r' _ hu hv hd rfl (run_equalIn_bool' w d f.type _ _ hd) (oJ fs (i + 1) ks' xs ys us vs r' Jq hr gP DN)
               rw [this]
       · rename_i kk hd
         cases hf
         cases xs with
         | nil => simp [mC] at he
         | cons x xs =>
           cases ys with
           | nil => cases x <;> simp [mC] at he
           | cons y ys =>
             cases x <;> cases y <;> simp only [mC, reduceCtorEq] at he
             split at he
             · rename_i e; subst e
               cases hr : mC ks' xs ys with
               | none => simp [hr] at he
               | some r' =>
                 simp [hr] at he
                 subst he
                 obtain ⟨u, hu, BJ, gP⟩ := ml hx
                 obtain ⟨v, hv, BK, DN⟩ := ml hy
                 simp only [az] at BJ BK
                 subst BJ BK
                 have := wa _ _ _ r' _ hu hv hd rfl (run_equalIn_int w d f.type _ _ _ _ hd) (oJ fs (i + 1) ks' xs ys us vs r' Jq hr gP DN)
                 rw [this]
             · cases he
       · rename_i hd
         cases hf
         cases xs with
         | nil => simp [mC] at he
         | cons x xs =>
           cases ys with
           | nil => cases x <;> simp [mC] at he
           | cons y ys =>
             cases x <;> cases y <;> simp only [mC, reduceCtorEq] at he
             cases hr : mC ks' xs ys with
             | none => simp [hr] at he
             | some r' =>
               simp [hr] at he
               subst he
               obtain ⟨u, hu, BJ, gP⟩ := ml hx
               obtain ⟨v, hv, BK, DN⟩ := ml hy
               simp only [az] at BJ BK
               subst BJ BK
               have := wa _ _ _ r' _ hu hv hd rfl (run_equalIn_string w d f.type _ _ hd) (oJ fs (i + 1) ks' xs ys us vs r' Jq hr gP DN)
               rw [this]
               simp [ByteArray.toList_eq]
       · cases hf
     · cases hf
   · cases hk
theorem Aa {P : Program} {t : TypeId} {a b : List AV} {us vs : List Value} {r : Bool} (h : F6 P t a b = some r) (ha : aE g a us) (hb : aE g b vs) :
 (Op.equalIn 10000 t (.agg us.toArray) (.agg vs.toArray)).run P w = .ok r w /\ P.eqGuardType P.depth t = false := by
 unfold F6 at h
 split at h
 · rename_i ks iE
   unfold Hk at iE
   split at iE
   · rename_i fs hu
     split at iE
     · rename_i hc
       have Zl : P.fieldsOf t = fs := by simp [Program.fieldsOf, hu]
       refine ⟨?_, hc.2⟩
       rw [run_equalIn_struct w 9999 t _ _ (by rw [Zl]; exact hu) hc.1, Zl]
       exact oJ (d := 9998) fs.toList 0 ks a b _ _ r iE h (by simpa using ha) (by simpa using hb)
     · cases iE
   · cases iE
 · cases h
theorem p7 {P : Program} (w : World) (d : Nat) (t : TypeId) (ms : Array (String × TypeId)) (h : P.underlying t = some (.interface ms)) (a : TypeId) (b : Value) : (Op.equalIn (d + 1) t (.iface a b) .nilIface).run P w = .ok false w := by
 simp [Op.equalIn, run_underlying h]
theorem ib {P : Program} (w : World) (d : Nat) (t e : TypeId) (h : P.underlying t = some (.pointer e)) (a : Option Addr) : (Op.equalIn (d + 1) t (.pointer a) (.pointer none)).run P w = .ok a.isNone w := by
 cases a <;> simp [Op.equalIn, run_underlying h]
theorem lZ {P : Program} (w : World) (d : Nat) (t e : TypeId) (h : P.underlying t = some (.slice e)) (a : Option Addr) (n c : Nat) : (Op.equalIn (d + 1) t (.slice a n c) (.slice none 0 0)).run P w = .ok a.isNone w := by
 cases a <;> simp [Op.equalIn, run_underlying h]
theorem oK {P : Program} (w : World) (d : Nat) (t : TypeId) (ms : Array (String × TypeId)) (h : P.underlying t = some (.interface ms)) : (Op.equalIn (d + 1) t .nilIface .nilIface).run P w = .ok true w := by
 simp [Op.equalIn, run_underlying h]
theorem II (h : aZ g U w) {op : BinOp} {t : TypeId} {x y : AV} {u v : Value} (X Y : Operand) (hx : az g x u) (hy : az g y v) :
 au.Fits C g U (G6 C.P op t x y) ((do let r <- (do eqGuard op t X Y u v; binOp op t u v : Sem Value); pure (Next.value r) : Sem Next).run C.P w) := by
 have hI : ∀ (k : IntKind) (n : Int), au.Fits C g U (gn k n) (.ok (.value (.int k (k.wrap n))) w) := fun k n => by
  unfold gn
  split
  · intro hi
    rw [u5 hi]
    exact aU h (by simp only [az])
  · exact aU h (by simp only [az])
 unfold G6
 split
 all_goals first
  | trivial
  | skip
 all_goals simp only [az] at hx hy
 all_goals first
  | (subst hx hy
     split
     · rename_i e; subst e
       first
        | (simp only [eqGuard, binOp, ne_eq, not_true_eq_false, if_false, Op.intArith, Op.intCmp, Op.intBits, bN, cj, bX, Bool.not_eq_true', Bool.true_eq_false, ca, dt, bo, if_true, eu]
           first
            | exact hI _ _
            | exact aU h (by simp only [az]))
        | (intro hb
           simp only [eqGuard, binOp, ne_eq, not_true_eq_false, if_false, Op.intDiv, if_neg hb, bN, cj, bX, Bool.not_eq_true', Bool.true_eq_false, ca, dt, bo, if_true, eu]
           first
            | exact hI _ _
            | exact aU h (by simp only [az]))
     · trivial)
  | skip
 · subst hx hy
   simp only [eqGuard, binOp, Op.stringOp, bN, cj, bX, ca, bo, if_false, eu, ByteArray.toList_eq, List.toList_toArray]
   exact aU h (by simp only [az])
 · subst hx hy
   simp only [eqGuard, binOp, Op.stringOp, bN, cj, bX, ca, bo, if_false, eu, ByteArray.toList_eq, List.toList_toArray]
   exact aU h (by simp only [az]; rfl)
 · subst hx hy
   rename_i a b
   intro hle
   have h1 : ¬ (((ByteArray.mk a.toArray).size + (ByteArray.mk b.toArray).size : Nat) : Int) > IntKind.i64.max := by
    have e1 : (ByteArray.mk a.toArray).size = a.length := by simp [ByteArray.size]
    have e2 : (ByteArray.mk b.toArray).size = b.length := by simp [ByteArray.size]
    have e3 : IntKind.i64.max = 9223372036854775807 := by simp [IntKind.max, IntKind.signed, IntKind.bits]
    rw [e1, e2, e3]; omega
   have h2 : (ByteArray.mk a.toArray) ++ (ByteArray.mk b.toArray) = ByteArray.mk (a ++ b).toArray := by
    apply ByteArray.ext
    simp
   simp only [eqGuard, binOp, Op.stringOp, bN, cj, bX, if_neg h1, eu, ca, dt, bo, if_true, if_false, h2]
   exact aU h (by simp only [az])
 · subst hx hy
   split
   · rename_i ht
     have hu : C.P.underlying t = some .bool := by unfold tu at ht; split at ht <;> simp_all
     have hr := run_equalIn_bool' (P := C.P) w 9999 t
     simp only [eqGuard, binOp, Op.equal, Op.maxDepth, bN, cj, bX, hr _ _ hu, ca, bo, if_false, eu]
     exact aU h (by simp only [az])
   · trivial
 · subst hx hy
   split
   · rename_i ht
     have hu : C.P.underlying t = some .bool := by unfold tu at ht; split at ht <;> simp_all
     have hr := run_equalIn_bool' (P := C.P) w 9999 t
     simp only [eqGuard, binOp, Op.equal, Op.maxDepth, bN, cj, bX, hr _ _ hu, ca, bo, if_false, eu]
     exact aU h (by simp only [az]; rfl)
   · trivial
 · rename_i a b
   obtain ⟨us, rfl, _, ha⟩ := hx
   obtain ⟨vs, rfl, _, hb⟩ := hy
   cases he : F6 C.P t a b with
   | none => trivial
   | some r =>
     obtain ⟨h1, h2⟩ := Aa (w := w) he ha hb
     simp only [sV, bN, run_eqGuard_agg w _ _ _ _ _ _ h2, bX, run_eql_struct, h1, cj]
     exact aU h (by simp only [az])
 · rename_i a b
   obtain ⟨us, rfl, _, ha⟩ := hx
   obtain ⟨vs, rfl, _, hb⟩ := hy
   cases he : F6 C.P t a b with
   | none => trivial
   | some r =>
     obtain ⟨h1, h2⟩ := Aa (w := w) he ha hb
     simp only [sV, bN, run_eqGuard_agg w _ _ _ _ _ _ h2, bX, run_neq_struct, h1, cj]
     exact aU h (by simp only [az])
 · obtain ⟨u', rfl, _⟩ := hx
   subst hy
   split
   · rename_i ht
     obtain ⟨ms, hu⟩ : ∃ ms, C.P.underlying t = some (.interface ms) := by unfold iX at ht; split at ht <;> simp_all
     have hr := p7 (P := C.P) w 9999 t ms hu
     simp only [eqGuard, binOp, Op.equal, Op.maxDepth, hr, bN, cj, bX, ca, bo, if_false, eu]
     exact aU h (by simp only [az])
   · trivial
 · obtain ⟨u', rfl, _⟩ := hx
   subst hy
   split
   · rename_i ht
     obtain ⟨ms, hu⟩ : ∃ ms, C.P.underlying t = some (.interface ms) := by unfold iX at ht; split at ht <;> simp_all
     have hr := p7 (P := C.P) w 9999 t ms hu
     simp only [eqGuard, binOp, Op.equal, Op.maxDepth, hr, bN, cj, bX, ca, dt, bo, if_false, eu]
     exact aU h (by simp only [az])
   · trivial
 · subst hx hy
   split
   · rename_i ht
     obtain ⟨ms, hu⟩ : ∃ ms, C.P.underlying t = some (.pointer ms) := by unfold j6 at ht; split at ht <;> simp_all
     have hr := ib (P := C.P) w 9999 t ms hu
     simp only [eqGuard, binOp, Op.equal, Op.maxDepth, hr, bN, cj, bX, Option.isNone_none, ca, dt, bo, if_false, eu]
     exact aU h (by simp [az])
   · trivial
 · obtain ⟨x, _, rfl⟩ := hx
   subst hy
   split
   · rename_i ht
     obtain ⟨ms, hu⟩ : ∃ ms, C.P.underlying t = some (.pointer ms) := by unfold j6 at ht; split at ht <;> simp_all
     have hr := ib (P := C.P) w 9999 t ms hu
     simp only [eqGuard, binOp, Op.equal, Op.maxDepth, hr, bN, cj, bX, Option.isNone_none, ca, dt, bo, if_false, eu]
     exact aU h (by simp [az])
   · trivial
 · subst hx hy
   split
   · rename_i ht
     obtain ⟨ms, hu⟩ : ∃ ms, C.P.underlying t = some (.pointer ms) := by unfold j6 at ht; split at ht <;> simp_all
     have hr := ib (P := C.P) w 9999 t ms hu
     simp only [eqGuard, binOp, Op.equal, Op.maxDepth, hr, bN, cj, bX, Option.isNone_none, ca, dt, bo, if_false, eu]
     exact aU h (by simp [az])
   · trivial
 · obtain ⟨x, _, rfl⟩ := hx
   subst hy
   split
   · rename_i ht
     obtain ⟨ms, hu⟩ : ∃ ms, C.P.underlying t = some (.pointer ms) := by unfold j6 at ht; split at ht <;> simp_all
     have hr := ib (P := C.P) w 9999 t ms hu
     simp only [eqGuard, binOp, Op.equal, Op.maxDepth, hr, bN, cj, bX, Option.isNone_none, ca, dt, bo, if_false, eu]
     exact aU h (by simp [az])
   · trivial
 · obtain ⟨_, _, _, rfl, _⟩ := hx
   subst hy
   split
   · rename_i ht
     obtain ⟨ms, hu⟩ : ∃ ms, C.P.underlying t = some (.pointer ms) := by unfold j6 at ht; split at ht <;> simp_all
     have hr := ib (P := C.P) w 9999 t ms hu
     simp only [eqGuard, binOp, Op.equal, Op.maxDepth, hr, bN, cj, bX, Option.isNone_none, ca, dt, bo, if_false, eu]
     exact aU h (by simp [az])
   · trivial
 · obtain ⟨_, _, _, rfl, _⟩ := hx
   subst hy
   split
   · rename_i ht
     obtain ⟨ms, hu⟩ : ∃ ms, C.P.underlying t = some (.pointer ms) := by unfold j6 at ht; split at ht <;> simp_all
     have hr := ib (P := C.P) w 9999 t ms hu
     simp only [eqGuard, binOp, Op.equal, Op.maxDepth, hr, bN, cj, bX, Option.isNone_none, ca, dt, bo, if_false, eu]
     exact aU h (by simp [az])
   · trivial
 · subst hx
   subst hy
   split
   · rename_i ht
     obtain ⟨ms, hu⟩ : ∃ ms, C.P.underlying t = some (.slice ms) := by unfold nC at ht; split at ht <;> simp_all
     have hr := lZ (P := C.P) w 9999 t ms hu
     simp only [eqGuard, binOp, Op.equal, Op.maxDepth, hr, bN, cj, bX, Option.isNone_none, Option.isNone_some, ca, dt, bo, if_false, eu]
     exact aU h (by simp [az])
   · trivial
 · obtain ⟨_, _, _, _, rfl, _⟩ := hx
   subst hy
   split
   · rename_i ht
     obtain ⟨ms, hu⟩ : ∃ ms, C.P.underlying t = some (.slice ms) := by unfold nC at ht; split at ht <;> simp_all
     have hr := lZ (P := C.P) w 9999 t ms hu
     simp only [eqGuard, binOp, Op.equal, Op.maxDepth, hr, bN, cj, bX, Option.isNone_none, Option.isNone_some, ca, dt, bo, if_false, eu]
     exact aU h (by simp [az])
   · trivial
 · obtain ⟨_, _, _, rfl, _⟩ := hx
   subst hy
   split
   · rename_i ht
     obtain ⟨ms, hu⟩ : ∃ ms, C.P.underlying t = some (.slice ms) := by unfold nC at ht; split at ht <;> simp_all
     have hr := lZ (P := C.P) w 9999 t ms hu
     simp only [eqGuard, binOp, Op.equal, Op.maxDepth, hr, bN, cj, bX, Option.isNone_none, Option.isNone_some, ca, dt, bo, if_false, eu]
     exact aU h (by simp [az])
   · trivial
theorem IJ (h : aZ g U w) {op : BinOp} {t : TypeId} {x y : AV} {u v : Value} (X Y : Operand) (hx : az g x u) (hy : az g y v) :
 au.Fits C g U (CZ C.P op t (isLit X || isLit Y) x y) ((do let r <- (do eqGuard op t X Y u v; binOp op t u v : Sem Value); pure (Next.value r) : Sem Next).run C.P w) := by
 have key : ∀ (op : BinOp), (op = .eql \/ op = .neq) -> iX C.P t = true -> (isLit X || isLit Y) = true -> (eqGuard op t X Y .nilIface .nilIface).run C.P w = .ok () w := fun op hop ht hl => by
  obtain ⟨ms, hu⟩ : ∃ ms, C.P.underlying t = some (.interface ms) := by unfold iX at ht; split at ht <;> simp_all
  rcases hop with rfl | rfl <;> cases X <;> cases Y <;> simp [isLit] at hl <;> simp [eqGuard]
 unfold CZ
 split
 · simp only [az] at hx hy
   subst hx hy
   split
   · rename_i ht
     obtain ⟨ms, hu⟩ : ∃ ms, C.P.underlying t = some (.interface ms) := by have ht := ht.1; unfold iX at ht; split at ht <;> simp_all
     have hr := oK (P := C.P) w 9999 t ms hu
     simp only [bN, key _ (.inl rfl) ht.1 ht.2, binOp, Op.equal, Op.maxDepth, hr, cj, bX, ca, dt, bo, if_false, eu]
     exact aU h (by simp [az])
   · trivial
 · simp only [az] at hx hy
   subst hx hy
   split
   · rename_i ht
     obtain ⟨ms, hu⟩ : ∃ ms, C.P.underlying t = some (.interface ms) := by have ht := ht.1; unfold iX at ht; split at ht <;> simp_all
     have hr := oK (P := C.P) w 9999 t ms hu
     simp only [bN, key _ (.inr rfl) ht.1 ht.2, binOp, Op.equal, Op.maxDepth, hr, cj, bX, ca, dt, bo, if_false, eu]
     exact aU h (by simp [az])
   · trivial
 · exact II h X Y hx hy
end
end Go.Rip
namespace Go.Rip
open Go.RowKit
section
variable {C : cw} {g : Gh} {U : St} {w : World}
def G4 (P : Program) (t u : TypeId) : Option (TypeId × Nat) :=
 match P.underlying u with
 | some (.slice _) => ey P t
 | some .string => match ey P t with
   | some (e, 1) => some (e, 1)
   | _ => none
 | _ => none
def pc (U : St) : AV -> Option (Nat × List AV)
 | .vec m _ l => some (m, l)
 | .al => some (0, [])
 | .ms b off m gN _ => match U.box b with
   | some l => some (m, (l.drop off).take (m * gN))
   | none => none
 | .str s => some (s.length, s.map fun b => .int .u8 b.toNat)
 | _ => none
def Ax (P : Program) (t u : TypeId) (mu : Bool) (s y : AV) (U : St) : au :=
 match G4 P t u, pc U y with
 | some (e, sz), some (m, l2) =>
   .cond (l2.length = m * sz) (match s with
   | .al => if m = 0 then .val .al else .cond (m <= 4294967296) (if mu then .mq m sz e none l2 else .kY m l2 none ⟨m, e, sz⟩)
   | .vec n .full l => if m = 0 then .val s else .cond (l.length = n * sz /\ n + m <= 4294967296) (.kY (n + m) (l ++ l2) none ⟨n + m, e, sz⟩)
   | .vec n (.own τ) l => .cond (U.tok τ = some ⟨n, e, sz⟩ /\ l.length = n * sz /\ n + m <= 4294967296) (.kY (n + m) (l ++ l2) (some τ) ⟨n + m, e, sz⟩)
   | .ms b off n gN e' => match U.box b with
     | some l => .cond (off = 0 /\ gN = sz /\ e' = e /\ n * sz <= l.length /\ n + m <= 4294967296) (.mq (n + m) sz e (some b) (l.take (n * sz) ++ l2))
     | none => .bad
   | _ => .bad)
 | _, _ => .bad
theorem IF {P : Program} {t u e : TypeId} {sz : Nat} (h : G4 P t u = some (e, sz)) : ey P t = some (e, sz) /\ ∃ d, P.underlying u = some d /\ ((∃ x, d = .slice x) \/ d = .string) := by
 unfold G4 at h
 split at h
 · rename_i x hx; exact ⟨h, _, hx, .inl ⟨x, rfl⟩⟩
 · rename_i hx
   split at h
   · rename_i e' he
     simp only [gD, jM] at h
     obtain ⟨rfl, rfl⟩ := h
     exact ⟨he, _, hx, .inr rfl⟩
   · cases h
 · cases h
theorem Nn (h : aZ g U w) {y : AV} {v : Value} (hy : az g y v) {m : Nat} {l2 : List AV} (hs : pc U y = some (m, l2)) {sz : Nat} (hl : l2.length = m * sz) :
 (∀ W, (Builtin.lenOf v).run C.P W = .ok m W) /\ ∃ us : List Value, aE g l2 us /\ (∀ u ∈ us, u.oneCell' = true) /\ ∀ W : World, W.heap = w.heap -> (Builtin.firstCells sz m v).run C.P W = .ok us.toArray W := by
 have iV : ∀ aH off j, (⟨aH, off, none⟩ : Addr).add j = ⟨aH, off + j, none⟩ := fun aH off j => by unfold Addr.add; split <;> simp_all
 have nu : ∀ (W : World) a, W.heap = w.heap -> W.cell? a = w.cell? a := fun W a hW => by simp [World.cell?, hW]
 have read : ∀ (aH off c : Nat) (us : List Value), us.length = m * sz -> (∀ j u, us[j]? = some u -> w.cell? ⟨aH, off + j, none⟩ = some u) -> ∀ W : World, W.heap = w.heap ->
  (Builtin.firstCells sz m (.slice (some ⟨aH, off, none⟩) m c)).run C.P W = .ok us.toArray W := fun aH off c us hlen hc W hW => by
  exact run_firstCells_some W sz m ⟨aH, off, none⟩ m c us hlen (fun j u hu => by rw [iV, nu W _ hW]; exact hc j u hu)
 cases y <;> simp only [pc, reduceCtorEq, gD, jM] at hs
 · rename_i s
   obtain ⟨rfl, rfl⟩ := hs
   simp only [az] at hy
   subst hy
   have dD : (ByteArray.mk s.toArray).size = s.length := by simp [ByteArray.size]
   refine ⟨fun W => by simp [Builtin.lenOf, dD], s.map (fun b => Value.int .u8 b.toNat), ?_, by simp [Value.oneCell'], fun W _ => ?_⟩
   · refine aE.zR (by simp) fun i x u hx hu => ?_
     simp only [kN, mO] at hx hu
     obtain ⟨b, hb, rfl⟩ := hx
     obtain ⟨b', dm, rfl⟩ := hu
     rw [hb] at dm; cases dm
     simp only [az]
   · simp only [Builtin.firstCells, cj]
     congr 1
     apply Array.ext'
     simp
 · obtain ⟨rfl, rfl⟩ := hs
   simp only [az] at hy
   subst hy
   exact ⟨fun W => by simp [Builtin.lenOf], [], by simp [aE], by simp, fun W _ => by simp [Builtin.firstCells]⟩
 · rename_i n cap l
   obtain ⟨rfl, rfl⟩ := hs
   simp only [az] at hy
   obtain ⟨aH, off, c, vs, rfl, _, _, _, hi, hr⟩ := hy
   exact ⟨fun W => by simp [Builtin.lenOf], vs, hr, fun u hu => by
    obtain ⟨j, hj⟩ := List.getElem?_of_mem hu
    exact (h.bQ _ _ _ (hi j u hj)).2, read aH off c vs (by rw [hr.length, hl]) fun j u hu => (h.bQ _ _ _ (hi j u hu)).1⟩
 · rename_i b off n gN e'
   split at hs
   · rename_i l hb
     simp only [gD, jM] at hs
     obtain ⟨rfl, rfl⟩ := hs
     simp only [az] at hy
     obtain ⟨x, c, hx, rfl, _, _, _, _⟩ := hy
     obtain ⟨a, vs, hv, ha, hr, hc⟩ := po h (p := .box b off) (v := .pointer (some ⟨x.aH, off, none⟩)) (l := l.drop off) (by simp only [az]; exact ⟨x, hx, rfl⟩) (by simp [jX, hb])
     cases hv
     refine ⟨fun W => by simp [Builtin.lenOf], vs.take (n * gN), hr.take _, fun u hu => ?_, read x.aH off c _ (by rw [(hr.take _).length, hl]) fun j u hu => ?_⟩
     · obtain ⟨j, hj⟩ := List.getElem?_of_mem hu
       rw [List.getElem?_take] at hj
       split at hj
       · exact (hc j u hj).2
       · cases hj
     · rw [List.getElem?_take] at hu
       split at hu
       · have := (hc j u hu).1; rwa [iV] at this
       · cases hu
   · cases hs
theorem mx {P : Program} {w : World} {t u ty e : TypeId} {i : TypeInfo} {d : TypeDesc} (ht : P.underlying t = some (.slice e)) (hu : P.underlying u = some d) (hd : (∃ x, d = .slice x) \/ d = .string) (hi : P.info? e = some i)
 {base : Option Addr} {n c m : Nat} {v : Value} {us : List Value} (hm : ∀ W, (Builtin.lenOf v).run P W = .ok m W) (hf : (Builtin.firstCells i.size m v).run P w = .ok us.toArray w) (nw : n + m <= c) :
 (Builtin.append_ #[t, u] ty #[.slice base n c, v]).run P w = match base with
   | some a => ((storeCells (a.add (n * i.size)) us).run P w).andThen fun _ w' => .ok (.slice base (n + m) c) w'
   | none => .ok (.slice base (n + m) c) w := by
 rcases hd with ⟨x, rfl⟩ | rfl <;> cases base <;>
  simp [Builtin.append_, run_underlying ht, run_underlying hu, sizeOf, typeInfo, hi, hm, nw, hf]
theorem A7 {P : Program} {w : World} {t u ty e : TypeId} {i : TypeInfo} {z : Value} {d : TypeDesc} (ht : P.underlying t = some (.slice e)) (hu : P.underlying u = some d) (hd : (∃ x, d = .slice x) \/ d = .string) (hi : P.info? e = some i) (hz : i.zero = some z) (zr : i.bytes <= 32768)
 {base : Option Addr} {n c m : Nat} {v : Value} {wy us : List Value} (hm : ∀ W, (Builtin.lenOf v).run P W = .ok m W) (hf : ∀ W : World, W.heap = w.heap -> (Builtin.firstCells i.size m v).run P W = .ok us.toArray W)
 (ho : ∀ W : World, W.heap = w.heap -> (Builtin.firstCells i.size n (.slice base n c)).run P W = .ok wy.toArray W) (abL : c < n + m) (kU : n + m <= 4294967296) :
 (Builtin.append_ #[t, u] ty #[.slice base n c, v]).run P w =
   .ok (.slice (some ⟨w.heap.size, 0, none⟩) (n + m) (grownCap w (n + m) c e))
    (w.drew.alloc (.cells (wy.toArray ++ us.toArray ++ Builtin.zeroCells z.cells (grownCap w (n + m) c e - (n + m))) e)) := by
 have nw : ¬ (n + m <= c) := by omega
 have Ou : ¬ (9223372036854775807 < ((n : Int) + (m : Int))) := by omega
 have lQ : (n + m) * i.bytes <= 140737488355328 := Nat.le_trans (Nat.mul_le_mul kU zr) (by omega)
 have By := growslice_fits (old := c) (need := n + m) (bytes := i.bytes) (by omega) lQ
 have Ot : ¬ (281474976710656 < Builtin.nextslicecap (n + m) c * i.bytes) := by omega
 have hf' := hf w.drew rfl
 have Qs := ho w.drew rfl
 rcases hd with ⟨x, rfl⟩ | rfl <;>
 · simp [Builtin.append_, run_underlying ht, run_underlying hu, sizeOf, typeInfo, zeroValue, hi, hz, hm, nw, Ou, Ot, Question.forced, hf', Qs, newRow, grownCap]
   congr 2
   apply Array.ext'
   simp [nI]
theorem St.F4 (U : St) (d : Option Nat) : St.Le (U.pQ d) U := by
 cases d with
 | none => exact St.Le.refl U
 | some b => exact St.qI U b
theorem mU {w : World} (h : aZ g U w) {del : Option Nat} {e : TypeId} {sz n c : Nat} {l : List AV} {vs rest : List Value} (hr : aE g l vs) (h1 : ∀ u ∈ vs, u.oneCell' = true) (h2 : ∀ u ∈ rest, u.oneCell' = true)
 (hl : l.length = n * sz) (hc : vs.length + rest.length = c * sz) (hn : n <= c) (th : c <= maxLen) :
 au.Fits C g U (.kY n l del ⟨n, e, sz⟩) (.ok (.value (.slice (some ⟨w.heap.size, 0, none⟩) n c)) (w.alloc (.cells (vs ++ rest).toArray e))) := by
 obtain ⟨τ, g', h3, hle, h4, h5, h6⟩ := (h.weaken (St.F4 U del)).kY e sz n c (vs ++ rest).toArray vs rest (by simp) (by
  intro u hu
  simp only [eZ] at hu
  rcases hu with hu | hu
  · exact h1 u hu
  · exact h2 u hu) (by rw [hr.length, hl]) (by simp [hc]) hn th
 refine ⟨_, _, g', τ, rfl, h3, hle, h6, ?_⟩
 simp only [NV.at, az]
 exact ⟨w.heap.size, 0, c, vs, rfl, hn, th, ⟨rfl, h4⟩, h5, hr.mono hle⟩
theorem oq {w : World} (h : aZ g U w) {del : Option Nat} {e : TypeId} {sz n c : Nat} {l : List AV} {vs rest : List Value} (hr : aE g l vs) (h1 : ∀ u ∈ vs, u.oneCell' = true) (h2 : ∀ u ∈ rest, u.oneCell' = true)
 (hc : vs.length + rest.length = c * sz) (hn : n <= c) (th : c <= maxLen) :
 au.Fits C g U (.mq n sz e del l) (.ok (.value (.slice (some ⟨w.heap.size, 0, none⟩) n c)) (w.alloc (.cells (vs ++ rest).toArray e))) := by
 obtain ⟨b, g', h3, hle, h4, h6⟩ := (h.weaken (St.F4 U del)).cq e (vs ++ rest).toArray vs rest l (by simp) hr (by
  intro u hu
  simp only [eZ] at hu
  rcases hu with hu | hu
  · exact h1 u hu
  · exact h2 u hu)
 refine ⟨_, _, g', b, rfl, h3, hle, h6, ?_⟩
 simp only [NV.at, az]
 exact ⟨_, c, h4, rfl, hn, th, by simp [hc], rfl⟩
theorem jU {z : Array Value} (hz : ∀ u ∈ z.toList, u.oneCell' = true) (n : Nat) (hp : 0 < z.size) : ∀ u ∈ (Builtin.zeroCells z n).toList, u.oneCell' = true := by
 intro u hu
 simp only [Builtin.zeroCells, Array.toList_map, List.mem_map] at hu
 obtain ⟨i, _, rfl⟩ := hu
 have aJ : i % z.size < z.size := Nat.mod_lt _ hp
 rw [getElem!_pos z _ aJ]
 exact hz _ (by simp)
theorem CV (h : aZ g U w) {t u ty : TypeId} {mu : Bool} {s y : AV} {v v2 : Value} (hs : az g s v) (hy : az g y v2) :
 au.Fits C g U (Ax C.P t u mu s y U) ((do let r <- Builtin.append_ #[t, u] ty #[v, v2]; pure (Next.value r) : Sem Next).run C.P w) := by
 have iV : ∀ aH off j, (⟨aH, off, none⟩ : Addr).add j = ⟨aH, off + j, none⟩ := fun aH off j => by unfold Addr.add; split <;> simp_all
 unfold Ax
 split
 · rename_i e sz m l2 hap HA
   intro pI
   obtain ⟨mX, d, hu, hd⟩ := IF hap
   obtain ⟨i, z, ht, hi, hz, tl, rfl, nA, zr, ZU⟩ := gj mX
   obtain ⟨hm, us, hr2, vV, hf⟩ := Nn (C := C) h hy HA pI
   have JC : us.length = m * i.size := by rw [hr2.length, pI]
   have grow : ∀ (base : Option Addr) (n c : Nat) (wy : List Value), (∀ W : World, W.heap = w.heap -> (Builtin.firstCells i.size n (.slice base n c)).run C.P W = .ok wy.toArray W) -> wy.length = n * i.size -> c < n + m -> n + m <= 4294967296 ->
    ∃ cap rest, n + m <= cap /\ cap <= maxLen /\ (∀ u ∈ rest, u.oneCell' = true) /\ (wy ++ us).length + rest.length = cap * i.size /\
    (Builtin.append_ #[t, u] ty #[.slice base n c, v2]).run C.P w = .ok (.slice (some ⟨w.drew.heap.size, 0, none⟩) (n + m) cap) (w.drew.alloc (.cells ((wy ++ us) ++ rest).toArray e)) := fun base n c wy ho DA aJ kU => by
    have fJ := grownCap_ge w (n + m) c e
    have hle := grownCap_le_maxLen w (n + m) c e (by unfold maxLen; omega)
    refine ⟨grownCap w (n + m) c e, (Builtin.zeroCells z.cells (grownCap w (n + m) c e - (n + m))).toList, fJ, hle, jU ZU _ (by omega), ?_, ?_⟩
    · rw [eU, DA, JC, pT, size_zeroCells, tl, <- Nat.add_mul, <- Nat.add_mul]
      congr 1; omega
    · rw [A7 ht hu hd hi hz zr hm hf ho aJ kU]
      congr 3
      simp
   split
   · simp only [az] at hs
     subst hs
     split
     · rename_i h0
       subst h0
       rw [bN, mx ht hu hd hi hm (hf w rfl) (by omega)]
       exact aU h (by simp only [az])
     · rename_i h0
       intro kU
       obtain ⟨cap, rest, h1, h2, h3, h4, h5⟩ := grow none 0 0 [] (fun W _ => by simp [Builtin.firstCells]) (by simp) (by omega) (by omega)
       rw [bN, h5]
       have dL := h.grow (iU w)
       simp only [cr, ik] at h1 h4 h5 ⊢
       split
       · exact oq dL hr2 vV h3 h4 h1 h2
       · exact mU dL hr2 vV h3 pI h4 h1 h2
   · rename_i n l
     have rL := hs
     simp only [az] at hs
     obtain ⟨aH, off, c, vs, rfl, BD, th, vX, ly, hr⟩ := hs
     simp only [og] at vX
     subst vX
     split
     · rename_i h0
       subst h0
       rw [bN, mx ht hu hd hi hm (hf w rfl) (by omega)]
       have aaO : us = [] := List.eq_nil_of_length_eq_zero (by simpa using JC)
       subst aaO
       simp only [storeCells, cj, bX, Nat.add_zero]
       exact aU h rL
     · rename_i h0
       rintro ⟨hl, kU⟩
       have DM : vs.length = c * i.size := by rw [hr.length, hl]
       have ho : ∀ W : World, W.heap = w.heap -> (Builtin.firstCells i.size c (.slice (some ⟨aH, off, none⟩) c c)).run C.P W = .ok vs.toArray W := fun W hW =>
        run_firstCells_some W i.size c ⟨aH, off, none⟩ c c vs DM (fun j u hu => by
         rw [iV]
         have : W.cell? ⟨aH, off + j, none⟩ = w.cell? ⟨aH, off + j, none⟩ := by simp [World.cell?, hW]
         rw [this]; exact (h.bQ _ _ _ (ly j u hu)).1)
       obtain ⟨cap, rest, h1, h2, h3, h4, h5⟩ := grow (some ⟨aH, off, none⟩) c c vs ho DM (by omega) kU
       rw [bN, h5]
       have dL := h.grow (iU w)
       refine mU dL (hr.append hr2) ?_ h3 (by rw [eU, hl, pI, Nat.add_mul]) h4 h1 h2
       intro u hu
       simp only [eZ] at hu
       rcases hu with hu | hu
       · obtain ⟨j, hj⟩ := List.getElem?_of_mem hu
         exact (h.bQ _ _ _ (ly j u hj)).2
       · exact vV u hu
   · rename_i n τ l
     rintro ⟨VB, hl, kU⟩
     simp only [az] at hs
     obtain ⟨aH, off, c, vs, rfl, BD, th, vX, ly, hr⟩ := hs
     simp only [og] at vX
     obtain ⟨rfl, ti⟩ := vX
     obtain ⟨aad, c', cur, k1, k2, k3, k4, k5, k6, k7⟩ := h.tok τ _ VB
     rw [ti] at k1; cases k1
     have DM : vs.length = n * i.size := by rw [hr.length, hl]
     by_cases nw : n + m <= c
     · have mH : n * i.size + us.length <= cur.size := by
        have e4 : cur.size = c * i.size := k4
        rw [JC, e4, <- Nat.add_mul]; exact Nat.mul_le_mul_right _ nw
       have fp := run_storeCells_at C.P aH (n * i.size) e us 0 cur w k3 (by simpa using mH) vV
       simp only [Nat.add_zero] at fp
       rw [bN, mx ht hu hd hi hm (hf w rfl) nw]
       simp only [iV, cr, fp, bX]
       obtain ⟨rA, g', t1, hle, t2, t3, t4⟩ := h.WL VB ti cur (cur.toList.take (n * i.size) ++ us ++ cur.toList.drop (n * i.size + us.length)).toArray us m k3 JC nw (by simp) vV
       refine ⟨_, _, g', rA, rfl, t1, hle, t4, ?_⟩
       simp only [NV.at, az]
       refine ⟨aH, 0, c, vs ++ us, rfl, nw, th, ⟨rfl, t2⟩, fun j u hu => ?_, (hr.append hr2).mono hle⟩
       by_cases hj : j < vs.length
       · rw [sK hj] at hu
         exact (ly.mono hle) j u hu
       · rw [List.getElem?_append_right (by omega)] at hu
         have e0 : n * i.size + (j - vs.length) = 0 + j := by omega
         have t3' : g'.bQ aH (n * i.size + (j - vs.length)) = some u := t3 _ u hu
         rw [e0] at t3'
         exact t3'
     · have ho : ∀ W : World, W.heap = w.heap -> (Builtin.firstCells i.size n (.slice (some ⟨aH, 0, none⟩) n c)).run C.P W = .ok vs.toArray W := fun W hW =>
        run_firstCells_some W i.size n ⟨aH, 0, none⟩ n c vs DM (fun j u hu => by
         rw [iV]
         have : W.cell? ⟨aH, 0 + j, none⟩ = w.cell? ⟨aH, 0 + j, none⟩ := by simp [World.cell?, hW]
         rw [this]; exact (h.bQ _ _ _ (ly j u hu)).1)
       obtain ⟨cap, rest, h1, h2, h3, h4, h5⟩ := grow (some ⟨aH, 0, none⟩) n c vs ho DM (by omega) kU
       rw [bN, h5]
       have dL := h.grow (iU w)
       refine mU dL (hr.append hr2) ?_ h3 (by rw [eU, hl, pI, Nat.add_mul]) h4 h1 h2
       intro u hu
       simp only [eZ] at hu
       rcases hu with hu | hu
       · obtain ⟨j, hj⟩ := List.getElem?_of_mem hu
         exact (h.bQ _ _ _ (ly j u hj)).2
       · exact vV u hu
   · rename_i b off n gN e'
     split
     · rename_i l hb
       rintro ⟨rfl, rfl, rfl, zA, kU⟩
       simp only [az] at hs
       obtain ⟨x, c, hx, rfl, BD, th, Yt, JF⟩ := hs
       obtain ⟨x', cur, vs, YG, k1, k2, k3, k4, k5, k6, k7, k8⟩ := h.box b l hb
       rw [hx] at k1; cases k1
       have qM : cur.size = c * i.size := by rw [k4]; omega
       have DM := k6.length
       by_cases nw : n + m <= c
       · have mH : n * i.size + us.length <= cur.size := by
          rw [JC, qM, <- Nat.add_mul]; exact Nat.mul_le_mul_right _ nw
         have fp := run_storeCells_at C.P x.aH (n * i.size) x.e us 0 cur w k3 (by simpa using mH) vV
         simp only [Nat.add_zero] at fp
         rw [bN, mx ht hu hd hi hm (hf w rfl) nw]
         simp only [iV, cr, fp, bX]
         have e1 : cur.toList.take (n * i.size) = vs.take (n * i.size) := by rw [k5, List.take_append_of_le_length (by omega)]
         have rM := h.setRow hb hx (l' := l.take (n * i.size) ++ l2) (cur.toList.take (n * i.size) ++ us ++ cur.toList.drop (n * i.size + us.length)).toArray (vs.take (n * i.size) ++ us) (cur.toList.drop (n * i.size + us.length)) (by
          simp only [List.size_toArray, eU, List.length_take, List.length_drop, pT]; omega) (by simp [e1]) ((k6.take _).append hr2) (by
          intro u hu
          simp only [eZ] at hu
          rcases hu with (hu | hu) | hu
          · exact k7 u (List.mem_of_mem_take hu)
          · exact vV u hu
          · exact k7 u (List.mem_of_mem_drop hu))
         obtain ⟨b', g', f1, hle, f2, f3⟩ := rM.rename (b := b) (x := .box (l.take (n * i.size) ++ l2)) (by simp [St.bU, St.set]) hx
         have ed : (U.bU b (l.take (n * i.size) ++ l2)).del b = U.del b := by
          simp only [St.bU, St.set, St.del, St.mk.injEq, and_true]
          funext y
          split <;> rfl
         rw [ed] at f1 f3
         refine ⟨_, _, g', b', rfl, f1, hle, f3, ?_⟩
         simp only [NV.at, az]
         exact ⟨x, c, f2, rfl, nw, th, Yt, JF⟩
       · have ZQ : (vs.take (n * i.size)).length = n * i.size := by simp; omega
         have ho : ∀ W : World, W.heap = w.heap -> (Builtin.firstCells i.size n (.slice (some ⟨x.aH, 0, none⟩) n c)).run C.P W = .ok (vs.take (n * i.size)).toArray W := fun W hW =>
          run_firstCells_some W i.size n ⟨x.aH, 0, none⟩ n c _ ZQ (fun j u hu => by
           rw [iV]
           have : W.cell? ⟨x.aH, 0 + j, none⟩ = w.cell? ⟨x.aH, 0 + j, none⟩ := by simp [World.cell?, hW]
           rw [this, cell_of_row _ _ _ cur x.e (0, 0) k3, cr, <- jc, k5]
           rw [List.getElem?_take] at hu
           split at hu
           · rw [sK (by omega)]; exact hu
           · cases hu)
         obtain ⟨cap, rest, h1, h2, h3, h4, h5⟩ := grow (some ⟨x.aH, 0, none⟩) n c _ ho ZQ (by omega) kU
         rw [bN, h5]
         have dL := h.grow (iU w)
         refine oq dL ((k6.take _).append hr2) ?_ h3 h4 h1 h2
         intro u hu
         simp only [eZ] at hu
         rcases hu with hu | hu
         · refine k7 u ?_
           rw [k5]
           exact List.mem_append_left _ (List.mem_of_mem_take hu)
         · exact vV u hu
     · trivial
   · trivial
 · trivial
end
end Go.Rip
namespace Go.Rip
open Go.RowKit
section
variable {C : cw} {g : Gh} {U : St} {w : World}
def dc (vN : Int) : Option AV -> Option Int
 | none => some vN
 | some (.int _ n) => some n
 | _ => none
def pn : iQ -> Option AV -> iQ
 | .full, none => .full
 | _, _ => .hX
def Ey (P : Program) (t : TypeId) (x : AV) (lo hi : Option AV) : au :=
 match x with
 | .str s => match kW P t, dc 0 lo, dc s.length hi with
   | true, some l, some h => .cond (0 <= l /\ l <= h /\ h <= s.length) (.val (.str ((s.take h.toNat).drop l.toNat)))
   | _, _, _ => .bad
 | .vec n cap l => match ey P t, dc 0 lo, dc n hi with
   | some (_, sz), some a, some b => .cond (0 <= a /\ a <= b /\ b <= n) (.val (.vec (b.toNat - a.toNat) (pn cap hi) ((l.take (b.toNat * sz)).drop (a.toNat * sz))))
   | _, _, _ => .bad
 | .al => match ey P t, dc 0 lo, dc 0 hi with
   | some (_, _), some a, some b => .cond (a = 0 /\ b = 0) (.val .al)
   | _, _, _ => .bad
 | .ms b off n gN e => match ey P t, dc 0 lo, dc n hi with
   | some (_, sz), some a, some h => .cond (0 <= a /\ a <= h /\ h <= n /\ (a < n \/ a = 0) /\ gN = sz) (.val (.ms b (off + a.toNat * sz) (h.toNat - a.toNat) gN e))
   | _, _, _ => .bad
 | _ => .bad
theorem run_sliceBound {P : Program} {x : Value} {k : IntKind} {n : Int} {y : Nat} {code : BoundsCode} (hx : x = .int k n) (h0 : 0 <= n) (h1 : n <= y) : (Instr.sliceBound x y code).run P w = .ok n.toNat w := by
 subst hx
 simp [Instr.sliceBound, asIntOf, h0, h1]
theorem y8 {vN : Int} {o : Option AV} {v : Option Value} {n : Int} (hr : match o, v with | none, none => True | some x, some u => az g x u | _, _ => False) (hb : dc vN o = some n) :
 (o = none /\ v = none /\ n = vN) \/ ∃ k u, v = some u /\ u = .int k n /\ ∃ x, o = some x := by
 cases o with
 | none =>
   cases v with
   | none => simp [dc] at hb; exact .inl ⟨rfl, rfl, hb.symm⟩
   | some u => exact hr.elim
 | some x =>
   cases v with
   | none => exact hr.elim
   | some u =>
     cases x <;> simp only [dc, reduceCtorEq, gD] at hb
     subst hb
     simp only [az] at hr
     exact .inr ⟨_, u, rfl, hr, _, rfl⟩
theorem lG {P : Program} {isS : Bool} {len cap : Nat} {lo hi : Option AV} {vl vh : Option Value} {a b : Int}
 (hl : match lo, vl with | none, none => True | some x, some u => az g x u | _, _ => False) (hh : match hi, vh with | none, none => True | some x, some u => az g x u | _, _ => False)
 (ha : dc 0 lo = some a) (hb : dc len hi = some b) (h0 : 0 <= a) (h1 : a <= b) (h2 : b <= len) (h3 : len <= cap) :
 (Instr.sliceBounds isS len cap vl vh none).run P w = .ok (a.toNat, b.toNat, cap) w := by
 rcases y8 hl ha with ⟨_, rfl, rfl⟩ | ⟨k, u, rfl, hu, _⟩ <;> rcases y8 hh hb with ⟨_, rfl, rfl⟩ | ⟨k', u', rfl, mE, _⟩
 · simp [Instr.sliceBounds]
 · have e1 : ∀ c, (Instr.sliceBound u' cap c).run P w = .ok b.toNat w := fun c => run_sliceBound mE (by omega) (by omega)
   simp [Instr.sliceBounds, e1]
 · have e1 : ∀ c, (Instr.sliceBound u len c).run P w = .ok a.toNat w := fun c => run_sliceBound hu h0 (by omega)
   simp [Instr.sliceBounds, e1]
 · have e1 : ∀ c, (Instr.sliceBound u' cap c).run P w = .ok b.toNat w := fun c => run_sliceBound mE (by omega) (by omega)
   have e2 : ∀ c, (Instr.sliceBound u b.toNat c).run P w = .ok a.toNat w := fun c => run_sliceBound hu h0 (by omega)
   simp [Instr.sliceBounds, e1, e2]
theorem FR (h : aZ g U w) {t : TypeId} {x : AV} {v : Value} {lo hi : Option AV} {vl vh : Option Value} (hx : az g x v)
 (hl : match lo, vl with | none, none => True | some x, some u => az g x u | _, _ => False) (hh : match hi, vh with | none, none => True | some x, some u => az g x u | _, _ => False) :
 au.Fits C g U (Ey C.P t x lo hi) ((do let r <- Instr.sliceAt t v vl vh none; pure (Next.value r) : Sem Next).run C.P w) := by
 have iV : ∀ aH off j, (⟨aH, off, none⟩ : Addr).add j = ⟨aH, off + j, none⟩ := fun aH off j => by unfold Addr.add; split <;> simp_all
 unfold Ey
 split
 · rename_i s
   split
   · rename_i a b ht ha hb
     rintro ⟨h0, h1, h2⟩
     simp only [az] at hx
     subst hx
     have dD : (ByteArray.mk s.toArray).size = s.length := by simp [ByteArray.size]
     have hr := lG (w := w) (P := C.P) (isS := false) hl hh ha hb h0 h1 h2 (cX _)
     simp only [Instr.sliceAt, Instr.slice, run_underlying (mZ ht), bN, bX, dD, hr, cj, Option.isSome_none, bo, if_false]
     refine aU h ?_
     simp only [az]
     congr 1
     apply ByteArray.ext
     simp only [ByteArray.data_extract]
     apply Array.ext'
     simp [List.extract_eq_take_drop, List.drop_take]
   · trivial
 · rename_i n cap l
   split
   · rename_i e sz a b ht ha hb
     rintro ⟨h0, h1, h2⟩
     simp only [az] at hx
     obtain ⟨aH, off, c, vs, rfl, BD, th, vX, ly, hr⟩ := hx
     obtain ⟨i, z, hu, iu, hz, tl, rfl, nA, _⟩ := gj ht
     have fK := lG (w := w) (P := C.P) (isS := true) hl hh ha hb h0 h1 h2 BD
     simp only [Instr.sliceAt, Instr.slice, run_underlying hu, bN, bX, fK, cj, dW iu]
     refine aU h ?_
     have Yd : og g (pn cap hi) aH (if c = a.toNat then off else off + a.toNat * i.size) (b.toNat - a.toNat) (c - a.toNat) := by
      cases cap with
      | full =>
        cases hi with
        | none =>
          simp only [pn, og] at vX ⊢
          simp only [dc, gD] at hb
          omega
        | some y => trivial
      | own τ => trivial
      | hX => trivial
     simp only [az]
     refine ⟨aH, if c = a.toNat then off else off + a.toNat * i.size, c - a.toNat, (vs.take (b.toNat * i.size)).drop (a.toNat * i.size), ?_, by omega, by omega, Yd, ?_, (hr.take _).drop _⟩
     · simp only [Option.map_some, iV]
       split <;> rfl
     · split
       · rename_i e1
         have : (vs.take (b.toNat * i.size)).drop (a.toNat * i.size) = [] := by
          rw [List.drop_eq_nil_iff]
          have : b.toNat <= a.toNat := by omega
          have := Nat.mul_le_mul_right i.size this
          simp; omega
         rw [this]; intro j u hu; simp at hu
       · intro j u hu
         rw [List.getElem?_drop, List.getElem?_take] at hu
         split at hu
         · have := ly _ u hu
           rw [Nat.add_assoc]; exact this
         · cases hu
   · trivial
 · split
   · rename_i e sz a b ht ha hb
     rintro ⟨rfl, rfl⟩
     simp only [az] at hx
     subst hx
     obtain ⟨i, z, hu, iu, hz, tl, rfl, nA, _⟩ := gj ht
     have fK := lG (w := w) (P := C.P) (isS := true) (len := 0) (cap := 0) hl hh ha (by simpa using hb) (by omega) (by omega) (by simp) (cX _)
     simp only [Instr.sliceAt, Instr.slice, run_underlying hu, bN, bX, fK, cj, dW iu]
     refine aU h (by simp [az])
   · trivial
 · rename_i b off n gN e
   split
   · rename_i e' sz a Zo ht ha hb
     rintro ⟨h0, h1, h2, h3, rfl⟩
     simp only [az] at hx
     obtain ⟨y, c, hy, rfl, BD, th, dD, JF⟩ := hx
     obtain ⟨i, z, hu, iu, hz, tl, rfl, nA, _⟩ := gj ht
     have fK := lG (w := w) (P := C.P) (isS := true) hl hh ha hb h0 h1 h2 BD
     simp only [Instr.sliceAt, Instr.slice, run_underlying hu, bN, bX, fK, cj, dW iu]
     refine aU h ?_
     simp only [az]
     have e2 : off + a.toNat * i.size + (c - a.toNat) * i.size = y.size := by
      have : a.toNat * i.size + (c - a.toNat) * i.size = c * i.size := by rw [<- Nat.add_mul]; congr 1; omega
      omega
     refine ⟨y, c - a.toNat, hy, ?_, by omega, by omega, e2, JF⟩
     simp only [Option.map_some, iV]
     split
     · rename_i e1
       have h0a : a.toNat = 0 := by omega
       simp [h0a]
     · rfl
   · trivial
 · trivial
def fF (op : UnOp) (x : AV) : au :=
 match op, x with
 | .not, .bool b => .val (.bool (!b))
 | .neg, .int k n => gn k (0 - n)
 | _, _ => .bad
theorem Fa (h : aZ g U w) (k : IntKind) (n : Int) : au.Fits C g U (gn k n) (.ok (.value (.int k (k.wrap n))) w) := by
 unfold gn
 split
 · intro hi
   rw [u5 hi]
   exact aU h (by simp only [az])
 · exact aU h (by simp only [az])
theorem PK (h : aZ g U w) {op : UnOp} {x : AV} {v : Value} (hx : az g x v) : au.Fits C g U (fF op x) ((do let r <- Op.unary op v; pure (Next.value r) : Sem Next).run C.P w) := by
 unfold fF
 split
 · simp only [az] at hx; subst hx
   exact aU h (by simp only [az])
 · simp only [az] at hx; subst hx
   simp only [Op.unary, Op.intArith, bN, cj, bX]
   exact Fa h _ _
 · trivial
def HG (P : Program) (t : TypeId) : Option IntKind := match P.underlying t with | some (.int k) => some k | _ => none
def uw (P : Program) (t : TypeId) : Bool := match P.underlying t with
 | some (.slice e) => match P.underlying e with
   | some (.int .u8) => true
   | _ => false
 | _ => false
theorem Cm {P : Program} {t : TypeId} (h : uw P t = true) : ∃ e, P.underlying t = some (.slice e) /\ P.underlying e = some (.int .u8) := by
 unfold uw at h
 split at h
 · rename_i e he
   split at h
   · rename_i hu; exact ⟨e, he, hu⟩
   · cases h
 · cases h
def Cu (P : Program) (src dst : TypeId) (x : AV) : au :=
 match HG P dst, (P.underlying src).isSome, x with
 | some .i64, true, .int _ n => .cond (u9 n) (.val (.int .i64 n))
 | some k, true, .int _ n => .val (.int k (k.wrap n))
 | none, true, .str s => if kW P dst = true /\ kW P src = true then .val (.str s) else
   if uw P dst = true /\ kW P src = true then .cond (s.length <= 4294967296) (.val (.vec s.length .hX (s.map fun b => .int .u8 b.toNat))) else .bad
 | _, _, _ => .bad
theorem Cq (h : aZ g U w) {src dst e : TypeId} {s : List UInt8} (hd : C.P.underlying dst = some (.slice e)) (he : C.P.underlying e = some (.int .u8)) (hs : C.P.underlying src = some .string) (hlen : s.length <= 4294967296) :
 au.Fits C g U (.val (.vec s.length .hX (s.map fun b => .int .u8 b.toNat))) ((do let r <- convert src dst (.string ⟨s.toArray⟩); pure (Next.value r) : Sem Next).run C.P w) := by
 have fK := Lib.run_convert_string_bytes (P := C.P) w src dst e ⟨s.toArray⟩ hs hd he
 have dD : (ByteArray.mk s.toArray).size = s.length := by simp [ByteArray.size]
 rw [dD] at fK
 have fJ := grownCap_ge w s.length 0 e
 have hle := grownCap_le_maxLen w s.length 0 e (by unfold maxLen; omega)
 let vs : List Value := s.map fun b => .int .u8 b.toNat
 let g' : Gh := { g with bQ := fun aH o => if aH = w.heap.size then vs[o]? else g.bQ aH o }
 have nz : ∀ o, g'.bQ w.heap.size o = vs[o]? := fun o => by show (if w.heap.size = w.heap.size then _ else _) = _; rw [if_pos rfl]
 have hold : ∀ aH o, aH ≠ w.heap.size -> g'.bQ aH o = g.bQ aH o := fun aH o hx => by show (if aH = w.heap.size then _ else _) = _; rw [if_neg hx]
 have Hx : Gh.Le g g' := ⟨rfl, rfl, fun _ _ h => h, fun aH o u hu => by
  rw [hold _ _ (fun e => by subst e; rw [h.w9 (cX _)] at hu; cases hu)]; exact hu, fun _ _ h => h, fun _ h => h, fun q o hq => hold _ _ (by have := h.le; omega), fun _ _ => rfl⟩
 have dL : aZ g' U (Lib.bytesWorld w e ⟨s.toArray⟩) := by
  refine h.change w.heap.size h.le Hx rfl rfl ⟨rfl, rfl, rfl, by rw [Lib.bytesWorld_size]; omega⟩ (fun k _ hk => Lib.bytesWorld_at_old w e _ k hk) hold (fun _ _ => rfl) (fun o u hu => ?_) (fun es c hr => ?_) (fun b x p k1 k2 => Nat.ne_of_lt (h.uF k1 k2)) (h.A6 (cX _))
  · rw [nz] at hu
    simp only [vs, kN, mO] at hu
    obtain ⟨b, hb, rfl⟩ := hu
    have aJ := (dF.1 hb).1
    refine ⟨?_, rfl⟩
    rw [Lib.bytesWorld_cell w e ⟨s.toArray⟩ o (by rw [dD]; exact aJ)]
    simp [List.getD, hb]
  · have : g.bL w.heap.size = some (es, c) := hr
    rw [h.uo (cX _)] at this; cases this
 simp only [bN, fK, bX, cj]
 refine ⟨_, _, g', .inl rfl, Hx, dL, ?_⟩
 simp only [az]
 refine ⟨w.heap.size, 0, _, vs, rfl, fJ, hle, trivial, fun i u hu => by rw [cr, nz]; exact hu, ?_⟩
 refine aE.zR (by simp [vs]) fun i x v hx hv => ?_
 simp only [vs, kN, mO] at hx hv
 obtain ⟨b, hb, rfl⟩ := hx
 obtain ⟨b', dm, rfl⟩ := hv
 rw [hb] at dm; cases dm
 simp only [az]
theorem Hc (h : aZ g U w) {src dst : TypeId} {x : AV} {v : Value} (hx : az g x v) : au.Fits C g U (Cu C.P src dst x) ((do let r <- convert src dst v; pure (Next.value r) : Sem Next).run C.P w) := by
 unfold Cu
 split
 · rename_i k n hk hs
   simp only [az] at hx; subst hx
   have hu : C.P.underlying dst = some (.int .i64) := by unfold HG at hk; split at hk <;> simp_all
   obtain ⟨d, hd⟩ := Option.isSome_iff_exists.1 hs
   intro hi
   simp only [convert, run_underlying hu, run_underlying hd, bN, cj, bX, Conv.intToInt]
   rw [u5 hi]
   exact aU h (by simp only [az])
 · rename_i k _ n _ hk hs
   simp only [az] at hx; subst hx
   have hu : C.P.underlying dst = some (.int k) := by unfold HG at hk; split at hk <;> simp_all
   obtain ⟨d, hd⟩ := Option.isSome_iff_exists.1 hs
   simp only [convert, run_underlying hu, run_underlying hd, bN, cj, bX, Conv.intToInt]
   exact aU h (by simp only [az])
 · split
   · rename_i hc
     simp only [az] at hx; subst hx
     simp only [convert, run_underlying (mZ hc.1), run_underlying (mZ hc.2), bN, cj, bX]
     exact aU h (by simp only [az])
   · split
     · rename_i hc
       intro hlen
       simp only [az] at hx; subst hx
       obtain ⟨e, hd, he⟩ := Cm hc.1
       exact Cq h hd he (mZ hc.2) hlen
     · trivial
 · trivial
def wv (P : Program) (t : TypeId) : Bool := match P.underlying t with | some (.interface _) => false | some _ => true | none => false
def uz (P : Program) (t : TypeId) (x : AV) : au := if wv P t = true then .val (.iface t x) else .bad
theorem zP (h : aZ g U w) {t : TypeId} {x : AV} {v : Value} (hx : az g x v) : au.Fits C g U (uz C.P t x) ((do let r <- Instr.makeInterface t v; pure (Next.value r) : Sem Next).run C.P w) := by
 unfold uz
 split
 · rename_i hc
   unfold wv at hc
   split at hc
   · cases hc
   · rename_i d hn hd
     simp only [Instr.makeInterface, run_underlying hd, bN, bX]
     cases d
     case interface => exact (hn _ rfl).elim
     all_goals
      simp only [cj, bX]
      exact aU h (by simp only [az]; exact ⟨v, rfl, hx⟩)
   · cases hc
 · trivial
def bq (x : AV) (i : Nat) : au :=
 match x with
 | .aR l => gg (l.drop i)
 | _ => .bad
theorem Cj (h : aZ g U w) {x : AV} {v : Value} (hx : az g x v) (i : Nat) : au.Fits C g U (bq x i) ((do let r <- Instr.extract v i; pure (Next.value r) : Sem Next).run C.P w) := by
 unfold bq
 split
 · rename_i l
   simp only [az] at hx
   obtain ⟨vs, rfl, hr⟩ := hx
   cases hd : l.drop i with
   | nil => trivial
   | cons y ys =>
     have hy : l[i]? = some y := by
      have := congrArg (fun l => l[0]?) hd
      simpa using this
     obtain ⟨u, hu, hyu⟩ := hr.get hy
     have e : vs.toArray[i]? = some u := by simpa using hu
     simp only [Instr.extract, e, bN, cj, bX]
     exact aU h hyu
 · trivial
def oD (x : AV) : au :=
 match x with
 | .iface t v => .panic (.iface t v)
 | _ => .bad
theorem FI (h : aZ g U w) {x : AV} {v : Value} (hx : az g x v) : au.Fits C g U (oD x) ((do let r <- Instr.panic v; pure (Next.value r) : Sem Next).run C.P w) := by
 unfold oD
 split
 · have gP := hx
   simp only [az] at hx
   obtain ⟨u, rfl, hu⟩ := hx
   simp only [Instr.panic, bN, run_goPanic, Result.andThen_halt]
   exact ⟨_, w, rfl, h, gP⟩
 · trivial
theorem AU (h : aZ g U w) {ev : Operand -> Value} {o : Oper} {X : Operand} {x : AV} (ho : o.op = .nilCheck X) (hx : az g x (ev X)) : au.Fits C g U (bF x) ((execOp ev o).run C.P w) := by
 unfold bF
 split
 · have gP := hx
   simp only [az] at hx
   obtain ⟨y, _, hv⟩ := hx
   simp only [execOp, ho, hv, cj]
   rw [hv] at gP
   exact aU h gP
 · have gP := hx
   simp only [az] at hx
   obtain ⟨_, _, _, hv, _⟩ := hx
   simp only [execOp, ho, hv, cj]
   rw [hv] at gP
   exact aU h gP
 · have gP := hx
   simp only [az] at hx
   obtain ⟨_, _, hv, _⟩ := hx
   simp only [execOp, ho, hv, cj]
   rw [hv] at gP
   exact aU h gP
 · trivial
def HO (P : Program) (t : TypeId) : Option Bool :=
 match P.underlying t with
 | some .string => some true
 | some (.slice _) => some false
 | _ => none
def D3 (P : Program) (t : TypeId) (x : AV) (U : St) : au :=
 match HO P t, x with
 | some true, .str s => .val (.int .i64 s.length)
 | some false, .vec n _ _ => .val (.int .i64 n)
 | some false, .ms _ _ n _ _ => .val (.int .i64 n)
 | some false, .al => .val (.int .i64 0)
 | _, _ => .bad
theorem rP {P : Program} {t : TypeId} {b : Bool} (h : HO P t = some b) : (b = true /\ P.underlying t = some .string) \/ (b = false /\ ∃ e, P.underlying t = some (.slice e)) := by
 unfold HO at h
 split at h
 · rename_i e; simp at h; exact .inl ⟨h, e⟩
 · rename_i e' e; simp at h; exact .inr ⟨h, _, e⟩
 · cases h
theorem JZ (h : aZ g U w) {t ty : TypeId} {x : AV} {v : Value} (hx : az g x v) : au.Fits C g U (D3 C.P t x U) ((do let r <- Builtin.len_ #[t] ty #[v]; pure (Next.value r) : Sem Next).run C.P w) := by
 unfold D3
 split
 · rename_i s DK
   have hu : C.P.underlying t = some .string := by rcases rP DK with ⟨_, h⟩ | ⟨h, _⟩ <;> first | exact h | cases h
   simp only [az] at hx; subst hx
   have dD : (ByteArray.mk s.toArray).size = s.length := by simp [ByteArray.size]
   simp [Builtin.len_, run_underlying hu, goInt, dD]
   exact aU h (by simp only [az])
 · rename_i DK
   obtain ⟨e0, hu⟩ : ∃ e, C.P.underlying t = some (.slice e) := by rcases rP DK with ⟨h, _⟩ | ⟨_, h⟩ <;> first | exact h | cases h
   simp only [az] at hx
   obtain ⟨_, _, _, _, rfl, _⟩ := hx
   simp [Builtin.len_, run_underlying hu, goInt]
   exact aU h (by simp only [az])
 · rename_i DK
   obtain ⟨e0, hu⟩ : ∃ e, C.P.underlying t = some (.slice e) := by rcases rP DK with ⟨h, _⟩ | ⟨_, h⟩ <;> first | exact h | cases h
   simp only [az] at hx
   obtain ⟨_, _, _, rfl, _⟩ := hx
   simp [Builtin.len_, run_underlying hu, goInt]
   exact aU h (by simp only [az])
 · rename_i DK
   obtain ⟨e0, hu⟩ : ∃ e, C.P.underlying t = some (.slice e) := by rcases rP DK with ⟨h, _⟩ | ⟨_, h⟩ <;> first | exact h | cases h
   simp only [az] at hx; subst hx
   simp [Builtin.len_, run_underlying hu, goInt]
   exact aU h (by simp only [az])
 · trivial
def sG (x y : AV) : au :=
 match x, y with
 | .int k a, .int k' b => if k = k' then .val (.int k (if b < a then b else a)) else .bad
 | _, _ => .bad
def yC (x y : AV) : au :=
 match x, y with
 | .int k a, .int k' b => if k = k' then .val (.int k (if b > a then b else a)) else .bad
 | _, _ => .bad
theorem J6 (h : aZ g U w) {ts : Array TypeId} {ty : TypeId} {x y : AV} {v u : Value} (hx : az g x v) (hy : az g y u) : au.Fits C g U (yC x y) ((do let r <- Builtin.max_ ts ty #[v, u]; pure (Next.value r) : Sem Next).run C.P w) := by
 unfold yC
 split
 · split
   · rename_i e; subst e
     simp only [az] at hx hy; subst hx hy
     simp [Builtin.max_, Builtin.max2]
     exact aU h (by simp only [az])
   · trivial
 · trivial
theorem J7 (h : aZ g U w) {ts : Array TypeId} {ty : TypeId} {x y : AV} {v u : Value} (hx : az g x v) (hy : az g y u) : au.Fits C g U (sG x y) ((do let r <- Builtin.min_ ts ty #[v, u]; pure (Next.value r) : Sem Next).run C.P w) := by
 unfold sG
 split
 · split
   · rename_i e; subst e
     simp only [az] at hx hy; subst hx hy
     simp [Builtin.min_, Builtin.min2]
     exact aU h (by simp only [az])
   · trivial
 · trivial
end
end Go.Rip
namespace Go.Rip
open Go.RowKit
section
variable {C : cw} {g : Gh} {U : St} {w : World}
def eW (place : Nat -> Option (Nat × Nat)) : List (Nat × AV) -> List AV -> (List AV -> au) -> au
 | [], z, k => k z
 | (i, x) :: rest, z, k => match place i with
   | some (off, size) => .cond (x.cQ = true /\ (ay x).length = size /\ off + size <= z.length) (eW place rest (aB z off (ay x)) k)
   | none => .bad
theorem vR (off : Nat) : ∀ (l : List Value) (j : Nat) (cs : Array Value), off + j + l.length <= cs.size ->
 ((l.zipIdx j).foldl (fun (cs : Array Value) (p : Value × Nat) => cs.setIfInBounds (off + p.2) p.1) cs).toList = cs.toList.take (off + j) ++ l ++ cs.toList.drop (off + j + l.length)
 | [], j, cs, _ => by simp
 | v :: l, j, cs, hle => by
   simp only [List.zipIdx_cons, List.foldl_cons]
   simp only [jL] at hle
   rw [vR off l (j + 1) _ (by simp; omega)]
   have hs := list_seg_step cs.toList (off + j) v l (by simpa using hle)
   rw [Array.toList_setIfInBounds]
   rw [show off + (j + 1) = off + j + 1 from rfl]
   exact hs
theorem rE {place : Nat -> Option (Nat × Nat)} {k : List AV -> au} {kk : Array Value -> Sem Value} {S : String}
 (hk : ∀ (z : List AV) (cs : Array Value), aE g z cs.toList -> (∀ u ∈ cs.toList, u.oneCell' = true) -> au.Fits C g U (k z) ((do let r <- kk cs; pure (Next.value r) : Sem Next).run C.P w)) :
 ∀ (parts : List (Nat × AV)) (vs : List (Nat × Value)) (z : List AV) (cs : Array Value), vs.length = parts.length -> (∀ (i : Nat) (p : Nat × AV) (q : Nat × Value), parts[i]? = some p -> vs[i]? = some q -> p.1 = q.1 /\ az g p.2 q.2) ->
  aE g z cs.toList -> (∀ u ∈ cs.toList, u.oneCell' = true) ->
  au.Fits C g U (eW place parts z k) ((do let r <- (match Instr.fill place cs vs with | some ze => kk ze | none => stuck S); pure (Next.value r) : Sem Next).run C.P w)
 | [], [], z, cs, _, _, hz, h1 => by
   simp only [eW, Instr.fill]
   exact hk z cs hz h1
 | [], _ :: _, _, _, h, _, _, _ => by simp at h
 | _ :: _, [], _, _, h, _, _, _ => by simp at h
 | (i, x) :: parts, (j, v) :: vs, z, cs, hl, hp, hz, h1 => by
   obtain ⟨rfl, hx⟩ := hp 0 _ _ rfl rfl
   dsimp only at hx ⊢
   simp only [eW]
   cases oS : place i with
   | none => trivial
   | some os =>
     obtain ⟨off, size⟩ := os
     rintro ⟨a1, a2, a3⟩
     obtain ⟨xL, xM⟩ := vK hx a1
     have hlen := xL.length
     have DO := hz.length
     have wg : v.cells.size = size := by rw [<- pT, hlen, a2]
     have hcz : off + v.cells.size <= cs.size := by rw [wg, <- pT, DO]; exact a3
     have e : (v.cells.zipIdx.foldl (fun (cs : Array Value) (p : Value × Nat) => cs.setIfInBounds (off + p.2) p.1) cs).toList = cs.toList.take off ++ v.cells.toList ++ cs.toList.drop (off + v.cells.toList.length) := by
      rw [<- Array.foldl_toList, Array.toList_zipIdx]
      have := vR off v.cells.toList 0 cs (by simpa using hcz)
      simpa using this
     have Ye : (v.cells.size ≠ size || off + v.cells.size > cs.size) = false := by simp [wg]; omega
     simp only [Instr.fill, oS]
     rw [if_neg (by rw [Ye]; simp)]
     refine rE hk parts vs _ _ (by simpa using hl) (fun i p q h2 h3 => hp (i + 1) p q (by simpa using h2) (by simpa using h3)) ?_ ?_
     · show aE g (aB z off (ay x)) (v.cells.zipIdx.foldl (fun (cs : Array Value) (p : Value × Nat) => cs.setIfInBounds (off + p.2) p.1) cs).toList
       rw [e]
       unfold aB
       rw [hlen]
       exact ((hz.take _).append xL).append (hz.drop _)
     · show ∀ u ∈ (v.cells.zipIdx.foldl (fun (cs : Array Value) (p : Value × Nat) => cs.setIfInBounds (off + p.2) p.1) cs).toList, u.oneCell' = true
       rw [e]
       intro u hu
       simp only [eZ] at hu
       rcases hu with (hu | hu) | hu
       · exact h1 u (List.mem_of_mem_take hu)
       · exact xM u hu
       · exact h1 u (List.mem_of_mem_drop hu)
def jY (C : cw) (ρ : Env) (parts : Array (Nat × Operand)) : List (Nat × AV) := parts.toList.map fun p => (p.1, ρ.ev C p.2)
def C0 (P : Program) (t : TypeId) (parts : List (Nat × AV)) : au :=
 match xn P t, ny P t with
 | some pl, some z => eW (fun i => pl[i]?) parts z fun z => .val (.agg z)
 | none, some z => match so P t with
   | some (_, _, sz) => eW (fun i => some (i * sz, sz)) parts z fun z => .val (.agg z)
   | none => .bad
 | _, _ => .bad
theorem EF {P : Program} {t : TypeId} {pl : List (Nat × Nat)} (h : xn P t = some pl) : ∃ fs : Array Field, P.underlying t = some (.struct fs) /\ pl = fs.toList.map (fun f => (f.offset, P.cellsOf f.type)) /\
 (fs.mapM (fun f => do pure (f.offset, <- sizeOf f.type) : Field -> Sem (Nat × Nat))).run P w = .ok pl.toArray w := by
 unfold xn at h
 split at h
 · rename_i fs hu
   split at h
   · rename_i bm
     simp only [gD] at h
     refine ⟨fs, hu, h.symm, ?_⟩
     rw [Array.mapM_eq_mapM_toList]
     rw [Array.all_eq_true_iff_forall_mem] at bm
     have key : ∀ l : List Field, (∀ f ∈ l, (P.info? f.type).isSome = true) -> (l.mapM (fun f => do pure (f.offset, <- sizeOf f.type) : Field -> Sem (Nat × Nat))).run P w = .ok (l.map fun f => (f.offset, P.cellsOf f.type)) w := by
      intro l
      induction l with
      | nil => intro _; simp
      | cons f l ih =>
        intro hf
        obtain ⟨i, hi⟩ := Option.isSome_iff_exists.1 (hf f (by simp))
        have ih' := ih fun x hx => hf x (by simp [hx])
        have hc : P.cellsOf f.type = i.size := by simp [Program.cellsOf, hi]
        simp only [List.mapM_cons, bN, dW hi, bX, cj, ih', dJ, hc]
     have := key fs.toList (fun f hf => bm f (by simpa using hf))
     simp only [Sem.run_map, this, bX, h]
   · cases h
 · cases h
theorem Fe (h : aZ g U w) {t : TypeId} {parts : List (Nat × AV)} {vs : Array (Nat × Value)} (hl : vs.size = parts.length) (hp : ∀ (i : Nat) (p : Nat × AV) (q : Nat × Value), parts[i]? = some p -> vs[i]? = some q -> p.1 = q.1 /\ az g p.2 q.2) :
 au.Fits C g U (C0 C.P t parts) ((do let r <- Instr.build t vs; pure (Next.value r) : Sem Next).run C.P w) := by
 unfold C0
 split
 · rename_i pl z hs hz
   obtain ⟨fs, hu, oS, fK⟩ := EF (w := w) hs
   obtain ⟨i, zv, hi, qV, hm⟩ := kT hz
   obtain ⟨h1, h2⟩ := dV (g := g) hm
   have key := rE (C := C) (g := g) (U := U) (w := w) (place := fun i => pl.toArray[i]?) (k := fun z => .val (.agg z)) (kk := fun cs => pure (.agg cs)) (S := "build: no such field, or a part of the wrong size") (fun z cs hz h1 => by
    simp only [bN, cj, bX]
    exact aU h (by simp only [az]; exact ⟨cs.toList, by simp, h1, hz⟩)) parts vs.toList z zv.cells (by simpa using hl) (fun i p q h1 h2 => hp i p q h1 (by simpa using h2)) h1 h2
   have e : (fun i : Nat => pl.toArray[i]?) = fun i => pl[i]? := by funext i; simp
   rw [<- e]
   simp only [Instr.build, bN, fy hi qV, bX, run_underlying hu, fK]
   cases hf : Instr.fill (fun i : Nat => pl.toArray[i]?) zv.cells vs.toList with
   | none => simp only [hf, bN, run_stuck, Result.andThen_halt] at key ⊢; exact key
   | some ze => simp only [hf, bN, cj, bX] at key ⊢; exact key
 · rename_i z hs hz
   split
   · rename_i n e sz ha
     obtain ⟨ie, hu, Zq, dD⟩ := rC ha
     obtain ⟨i, zv, hi, qV, hm⟩ := kT hz
     obtain ⟨h1, h2⟩ := dV (g := g) hm
     have key := rE (C := C) (g := g) (U := U) (w := w) (place := fun i => some (i * sz, sz)) (k := fun z => .val (.agg z)) (kk := fun cs => pure (.agg cs)) (S := "build: a part of the wrong size") (fun z cs hz h1 => by
      simp only [bN, cj, bX]
      exact aU h (by simp only [az]; exact ⟨cs.toList, by simp, h1, hz⟩)) parts vs.toList z zv.cells (by simpa using hl) (fun i p q h1 h2 => hp i p q h1 (by simpa using h2)) h1 h2
     simp only [Instr.build, bN, fy hi qV, bX, run_underlying hu, dW Zq, dD]
     cases hf : Instr.fill (fun i : Nat => some (i * sz, sz)) zv.cells vs.toList with
     | none => simp only [hf, bN, run_stuck, Result.andThen_halt] at key ⊢; exact key
     | some ze => simp only [hf, bN, cj, bX] at key ⊢; exact key
   · trivial
 · trivial
end
end Go.Rip
namespace Go.Rip
open Go.RowKit
section
variable {C : cw} {g : Gh} {U : St} {w : World}
def bK : Nat -> List AV -> List AV
 | 0, _ => []
 | n + 1, z => z ++ bK n z
theorem ju (z : List AV) : ∀ n, (bK n z).length = n * z.length
 | 0 => by simp [bK]
 | n + 1 => by simp [bK, ju z n, Nat.add_mul]; omega
theorem qu {z : List AV} {zv : Array Value} (hz : aE g z zv.toList) : ∀ n, aE g (bK n z) ((Array.range (n * zv.size)).map (zv[· % zv.size]!)).toList := fun n => by
 have hl : z.length = zv.size := by rw [<- hz.length]; simp
 refine aE.zR (by simp [ju, hl]) fun i x v hx hv => ?_
 have key : ∀ n i x, (bK n z)[i]? = some x -> z[i % zv.size]? = some x := fun n => by
  induction n with
  | zero => intro i x hx; simp [bK] at hx
  | succ n ih =>
    intro i x hx
    simp only [bK] at hx
    by_cases hi : i < z.length
    · rw [sK hi] at hx
      rw [Nat.mod_eq_of_lt (by omega)]; exact hx
    · rw [List.getElem?_append_right (by omega)] at hx
      have := ih _ _ hx
      rw [hl, <- Nat.mod_eq_sub_mod (by omega)] at this
      exact this
 have gP := key n i x hx
 obtain ⟨u, hu, hr⟩ := hz.get gP
 simp only [Array.toList_map, kN, mO] at hv
 obtain ⟨j, hj, rfl⟩ := hv
 have Dq : j = i := by
  rw [jc, Array.getElem?_range] at hj
  split at hj
  · simp at hj; exact hj.symm
  · cases hj
 subst Dq
 have aJ : j % zv.size < zv.size := by
  have := (dF.1 hu).1
  simpa using this
 rw [getElem!_pos zv _ aJ]
 rw [jc, getElem?_pos zv _ aJ] at hu
 cases hu
 exact hr
def pk (P : Program) (t : TypeId) (n : Nat) (mu : Bool) (parts : List (Nat × AV)) : au :=
 match ey P t with
 | some (e, sz) => match ny P e with
   | some z => .cond (n * sz <= 16777216) (eW (fun i => some (i * sz, sz)) parts (bK n z) fun cs => .cond (cs.length = n * sz) (if mu then .mq n sz e none cs else .val (.vec n .full cs)))
   | none => .bad
 | none => .bad
theorem yo (h : aZ g U w) {t : TypeId} {n : Nat} {mu : Bool} {parts : List (Nat × AV)} {vs : Array (Nat × Value)} (hl : vs.size = parts.length) (hp : ∀ (i : Nat) (p : Nat × AV) (q : Nat × Value), parts[i]? = some p -> vs[i]? = some q -> p.1 = q.1 /\ az g p.2 q.2) :
 au.Fits C g U (pk C.P t n mu parts) ((do let r <- Instr.buildSlice t n vs; pure (Next.value r) : Sem Next).run C.P w) := by
 unfold pk
 split
 · rename_i e sz hs
   split
   · rename_i z hz
     intro hn
     obtain ⟨i, zv, hu, hi, lT, tl, rfl, nA, _, h1⟩ := gj hs
     obtain ⟨i', Xf, iu, qV, hm⟩ := kT hz
     rw [hi] at iu; cases iu
     rw [lT] at qV; cases qV
     obtain ⟨h1, h2⟩ := dV (g := g) hm
     have OD : ¬ (n * i.size > 2 ^ 24) := by omega
     have VK := qu (g := g) h1 n
     have key := rE (C := C) (g := g) (U := U) (w := w) (place := fun j => some (j * i.size, i.size)) (k := fun cs => .cond (cs.length = n * i.size) (if mu then .mq n i.size e none cs else .val (.vec n .full cs)))
      (kk := fun cs => do pure (.slice (some (<- newRow e cs)) n n)) (S := "buildSlice: a part of the wrong size") (fun z cs hz xL => by
      intro hlen
      have qM : cs.size = n * i.size := by rw [<- pT, hz.length, hlen]
      have BE : n <= maxLen := by
       have : n <= n * i.size := Nat.le_mul_of_pos_right _ nA
       unfold maxLen; omega
      simp only [newRow, bN, cj, run_newObj, bX]
      split
      · have := oq (C := C) (del := none) (e := e) (sz := i.size) (n := n) (c := n) h (vs := cs.toList) (rest := []) hz xL (by simp) (by simp [qM]) (cX _) BE
        simpa using this
      · obtain ⟨g', hle, ly, _, _, dL⟩ := h.Kb e cs cs.toList [] (by simp) xL
        refine ⟨_, _, g', .inl rfl, hle, dL, ?_⟩
        simp only [az]
        exact ⟨w.heap.size, 0, n, cs.toList, rfl, cX _, BE, rfl, ly, hz.mono hle⟩) parts vs.toList (bK n z) ((Array.range (n * zv.cells.size)).map (zv.cells[· % zv.cells.size]!)) (by simpa using hl) (fun i p q h1 h2 => hp i p q h1 (by simpa using h2)) VK (by
        intro u hu
        simp only [Array.toList_map, List.mem_map] at hu
        obtain ⟨j, _, rfl⟩ := hu
        have aJ : j % zv.cells.size < zv.cells.size := Nat.mod_lt _ (by omega)
        rw [getElem!_pos zv.cells _ aJ]
        exact h2 _ (by simp))
     simp only [Instr.buildSlice, bN, run_underlying hu, dW hi, bX, if_neg OD, eu, fy hi lT, cj]
     by_cases h0 : n * i.size = 0
     · have wc : n = 0 := by
        rcases Nat.mul_eq_zero.1 h0 with h | h
        · exact h
        · omega
       subst wc
       simp only [Nat.zero_mul, if_true, bX] at key ⊢
       have e1 : (Array.range 0).map ((#[] : Array Value)[· % (#[] : Array Value).size]!) = (Array.range 0).map (zv.cells[· % zv.cells.size]!) := by simp
       rw [e1]
       cases hf : Instr.fill (fun j => some (j * i.size, i.size)) ((Array.range 0).map (zv.cells[· % zv.cells.size]!)) vs.toList with
       | none => simp only [hf, bN, run_stuck, Result.andThen_halt] at key ⊢; exact key
       | some ze => simp only [hf, bN, cj, bX] at key ⊢; exact key
     · simp only [if_neg h0, bX]
       rw [tl] at key ⊢
       cases hf : Instr.fill (fun j => some (j * i.size, i.size)) ((Array.range (n * i.size)).map (zv.cells[· % i.size]!)) vs.toList with
       | none => simp only [hf, bN, run_stuck, Result.andThen_halt] at key ⊢; exact key
       | some ze => simp only [hf, bN, cj, bX] at key ⊢; exact key
   · trivial
 · trivial
def oB (P : Program) (t : TypeId) : Option (FK × TypeId) :=
 match P.underlying t with
 | some (.map k e) => match P.underlying k with
   | some (.int _) => some (.i, e)
   | some .string => some (.s, e)
   | _ => none
 | _ => none
def fL : FK -> AV -> AV -> Option Bool
 | .i, .int k a, .int k' b => if k = k' then some (a == b) else none
 | .s, .str a, .str b => some (a == b)
 | _, _, _ => none
def ox : FK -> AV -> Bool
 | .i, .int _ _ => true
 | .s, .str _ => true
 | _, _ => false
def jS (fk : FK) (k : AV) : List AV -> Nat -> Option (Option Nat)
 | [], _ => some none
 | y :: ys, i => match fL fk k y with
   | none => none
   | some b => if b = true then some (some i) else jS fk k ys (i + 1)
def fB (k v : AV) : List AV -> List AV -> List AV × List AV
 | [], _ => ([k], [v])
 | y :: ys, ws => if gS k y = true then (k :: y :: ys, v :: ws) else
   match ws with
   | [] => ([k], [v])
   | x :: xs => (y :: (fB k v ys xs).1, x :: (fB k v ys xs).2)
def oC (P : Program) (t : TypeId) (m k v : AV) (U : St) : au :=
 match oB P t, m with
 | some (fk, _), .mp id => match U.mp id with
   | some (ks, vs) => match jS fk k ks 0, ox fk k with
     | some none, true => .jQ (.aR []) id (.mp (fB k v ks vs).1 (fB k v ks vs).2)
     | some (some i), true => .jQ (.aR []) id (.mp ks (vs.set i v))
     | _, _ => .bad
   | none => .bad
 | _, _ => .bad
def kD (U : St) : AV -> Option (List AV × List AV)
 | .mp id => U.mp id
 | .eR ks vs => some (ks, vs)
 | .ke => some ([], [])
 | _ => none
def kH (fk : FK) (k : AV) (vN : AV) (ok : Bool) : List AV -> List AV -> au
 | y :: ys, v :: vs => match fL fk k y with
   | none => .bad
   | some b => if b = true then .val (if ok then .aR [v, .bool true] else v) else kH fk k vN ok ys vs
 | _, _ => .val (if ok then .aR [vN, .bool false] else vN)
def zeroV (P : Program) (t : TypeId) : Option AV := ((P.info? t).bind (·.zero)).map Bt
def tw (P : Program) (t : TypeId) (m k : AV) (ok : Bool) (U : St) : au :=
 match oB P t, kD U m with
 | some (fk, e), some (ks, vs) => match zeroV P e, ox fk k with
   | some z, true => kH fk k z ok ks vs
   | _, _ => .bad
 | _, _ => .bad
theorem wm {P : Program} {t e : TypeId} {fk : FK} (h : oB P t = some (fk, e)) : ∃ k, P.underlying t = some (.map k e) /\ ((fk = .i /\ ∃ q, P.underlying k = some (.int q)) \/ (fk = .s /\ P.underlying k = some .string)) := by
 unfold oB at h
 split at h
 · rename_i k e' hu
   split at h
   · rename_i q hq
     simp only [gD, jM] at h
     obtain ⟨rfl, rfl⟩ := h
     exact ⟨k, hu, .inl ⟨rfl, q, hq⟩⟩
   · rename_i hq
     simp only [gD, jM] at h
     obtain ⟨rfl, rfl⟩ := h
     exact ⟨k, hu, .inr ⟨rfl, hq⟩⟩
   · cases h
 · cases h
theorem qg {P : Program} {k : TypeId} {fk : FK} {d : TypeDesc} (hd : P.underlying k = some d) (hk : (fk = .i /\ ∃ q, d = .int q) \/ (fk = .s /\ d = .string)) {x y : AV} {u v : Value} {b : Bool} (hx : az g x u) (hy : az g y v) (h : fL fk x y = some b) :
 Instr.sameNow d u v = some b := by
 rcases hk with ⟨rfl, q, rfl⟩ | ⟨rfl, rfl⟩ <;> cases x <;> cases y <;> simp only [fL, reduceCtorEq] at h
 · split at h
   · rename_i e; subst e
     simp only [az] at hx hy; subst hx hy
     simp at h; subst h
     simp [Instr.sameNow]
   · cases h
 · simp only [az] at hx hy; subst hx hy
   simp only [gD] at h; subst h
   simp only [Instr.sameNow, beq_toListBytes, ByteArray.toList_eq, List.toList_toArray]
theorem findNow_spec {d : TypeDesc} {u : Value} : ∀ (es : List MapEntry) (i : Nat), (∀ e ∈ es, ∃ b, Instr.sameNow d u e.key = some b) ->
 ((∀ e ∈ es, Instr.sameNow d u e.key = some false) /\ Instr.findNow d u es i = some none) \/
 (∃ j e, es[j]? = some e /\ Instr.sameNow d u e.key = some true /\ Instr.findNow d u es i = some (some (i + j, e.val)))
 | [], i, _ => .inl ⟨by simp, by simp [Instr.findNow]⟩
 | e :: es, i, h => by
   obtain ⟨b, hb⟩ := h e (by simp)
   cases b
   · rcases findNow_spec es (i + 1) (fun x hx => h x (by simp [hx])) with ⟨h1, h2⟩ | ⟨j, e', h1, h2, h3⟩
     · refine .inl ⟨fun x hx => ?_, by simp [Instr.findNow, hb, h2]⟩
       rcases dS.1 hx with rfl | hx
       · exact hb
       · exact h1 x hx
     · exact .inr ⟨j + 1, e', by simpa using h1, h2, by simp [Instr.findNow, hb, h3]; omega⟩
   · exact .inr ⟨0, e, by simp, hb, by simp [Instr.findNow, hb]⟩
theorem sE {fk : FK} {k y : AV} (h : fL fk k y = some true) : k = y := by
 cases fk <;> cases k <;> cases y <;> simp only [fL, reduceCtorEq] at h
 · split at h
   · rename_i e; subst e; simp at h; rw [h]
   · cases h
 · simp at h; rw [h]
theorem HK (k : AV) : gS k k = false := by
 cases k <;> simp [gS]
theorem FC {a b c : AV} (h : gS a b = true) (h' : gS b c = true) : gS a c = true := by
 cases a <;> cases b <;> simp only [gS, bo] at h <;> cases c <;> simp only [gS, bo, bR, c7] at h h' ⊢
 · exact ⟨h.1.trans h'.1, by omega⟩
 · exact List.lt_trans h h'
theorem OI {fk : FK} {k y : AV} (h : fL fk k y = some false) : gS k y = true \/ gS y k = true := by
 cases fk <;> cases k <;> cases y <;> simp only [fL, reduceCtorEq] at h
 · split at h
   · rename_i e; subst e; simp at h; simp [gS]; omega
   · cases h
 · simp at h
   simp only [gS, c7]
   rcases Classical.em ((_ : List UInt8) < _) with hl | hl
   · exact .inl hl
   · refine .inr ?_
     rcases Classical.em ((_ : List UInt8) < _) with pI | pI
     · exact pI
     · exact absurd (List.le_antisymm (List.not_lt.1 pI) (List.not_lt.1 hl)) h
theorem zL {fk : FK} {k y z : AV} (h : fL fk k y = some true) (hz : gS y z = true \/ gS z y = true) : ∃ b, fL fk k z = some b := by
 have := sE h
 subst this
 cases fk <;> cases k <;> cases z <;> simp [fL, gS] at h hz ⊢
 rcases hz with ⟨e, _⟩ | ⟨e, _⟩
 · exact e
 · exact e.symm
theorem ue {fk : FK} {k : AV} : ∀ {ks : List AV} {s : Nat} {r : Option Nat}, jS fk k ks s = some r ->
 (r = none /\ ∀ y ∈ ks, fL fk k y = some false) \/ (∃ i, r = some (s + i) /\ ∃ y, ks[i]? = some y /\ fL fk k y = some true)
 | [], s, r, h => by simp only [jS, gD] at h; exact .inl ⟨h.symm, by simp⟩
 | y :: ys, s, r, h => by
   simp only [jS] at h
   split at h
   · cases h
   · rename_i b hb
     cases b
     · simp only [bo, if_false] at h
       rcases ue h with ⟨h1, h2⟩ | ⟨i, h1, z, h2, h3⟩
       · refine .inl ⟨h1, fun z hz => ?_⟩
         rcases dS.1 hz with rfl | hz
         · exact hb
         · exact h2 z hz
       · exact .inr ⟨i + 1, by rw [h1]; congr 1; omega, z, by simpa using h2, h3⟩
     · simp only [if_true, gD] at h
       exact .inr ⟨0, by rw [<- h]; rfl, y, by simp, hb⟩
theorem Ir {ks : List AV} (h : mR ks) {i j : Nat} {y : AV} (hi : ks[i]? = some y) (hj : ks[j]? = some y) : i = j := by
 have key : ∀ i j, i < j -> ks[i]? = some y -> ks[j]? = some y -> False := fun i j fS hi hj => by
  obtain ⟨h1, h2⟩ := dF.1 hi
  obtain ⟨h3, h4⟩ := dF.1 hj
  have := List.pairwise_iff_getElem.1 h i j h1 h3 fS
  rw [h2, h4, HK] at this; cases this
 rcases Nat.lt_trichotomy i j with h | h | h
 · exact (key i j h hi hj).elim
 · exact h
 · exact (key j i h hj hi).elim
theorem yu {P : Program} {kt : TypeId} {fk : FK} {d : TypeDesc} (hd : P.underlying kt = some d) (hk : (fk = .i /\ ∃ q, d = .int q) \/ (fk = .s /\ d = .string)) {x : AV} {u : Value} (hx : az g x u)
 {ks : List AV} {l es : List MapEntry} (hp : l.Perm es) (hs : mR ks) (hr : aE g ks (l.map (·.key))) {r : Option Nat} (h : jS fk x ks 0 = some r) :
 (r = none /\ (∀ y ∈ ks, fL fk x y = some false) /\ ∀ i, Instr.findNow d u es i = some none) \/
 (∃ i j e, r = some i /\ ks[i]? = some x /\ l[i]? = some e /\ es[j]? = some e /\ az g x e.key /\ ∀ s, Instr.findNow d u es s = some (some (s + j, e.val))) := by
 have mem : ∀ e ∈ es, ∃ i y, ks[i]? = some y /\ l[i]? = some e /\ az g y e.key := fun e he => by
  obtain ⟨i, hi⟩ := List.getElem?_of_mem (hp.mem_iff.2 he)
  have aJ : i < ks.length := by
   have h1 := (dF.1 hi).1
   have := hr.length
   simp at this; omega
  obtain ⟨v, hv, JE⟩ := hr.get (i := i) (x := ks[i]) (js aJ)
  rw [kN, hi] at hv
  simp at hv
  subst hv
  exact ⟨i, ks[i], js aJ, hi, JE⟩
 rcases ue h with ⟨rfl, h1⟩ | ⟨i, rfl, y, h1, h2⟩
 · refine .inl ⟨rfl, h1, fun s => ?_⟩
   have hf : ∀ e ∈ es, Instr.sameNow d u e.key = some false := fun e he => by
    obtain ⟨i, y, hy, _, JG⟩ := mem e he
    exact qg (P := P) hd hk hx JG (h1 y (fO hy))
   rcases findNow_spec es s (fun e he => ⟨_, hf e he⟩) with ⟨_, h2⟩ | ⟨j, e, q1, q2, _⟩
   · exact h2
   · rw [hf e (fO q1)] at q2; cases q2
 · have xV := sE h2
   subst xV
   have all : ∀ z ∈ ks, ∃ b, fL fk x z = some b := fun z hz => by
    obtain ⟨j, hj⟩ := List.getElem?_of_mem hz
    rcases Nat.lt_trichotomy i j with fS | fS | fS
    · obtain ⟨a1, a2⟩ := dF.1 h1
      obtain ⟨a3, a4⟩ := dF.1 hj
      have := List.pairwise_iff_getElem.1 hs i j a1 a3 fS
      rw [a2, a4] at this
      exact zL h2 (.inl this)
    · subst fS; rw [h1] at hj; cases hj; exact ⟨_, h2⟩
    · obtain ⟨a1, a2⟩ := dF.1 h1
      obtain ⟨a3, a4⟩ := dF.1 hj
      have := List.pairwise_iff_getElem.1 hs j i a3 a1 fS
      rw [a2, a4] at this
      exact zL h2 (.inr this)
   have same : ∀ e ∈ es, ∃ b, Instr.sameNow d u e.key = some b := fun e he => by
    obtain ⟨i, y, hy, _, JG⟩ := mem e he
    obtain ⟨b, hb⟩ := all y (fO hy)
    exact ⟨b, qg (P := P) hd hk hx JG hb⟩
   have rI : ∃ e0, l[i]? = some e0 /\ az g x e0.key := by
    obtain ⟨v, hv, JE⟩ := hr.get h1
    rw [kN, mO] at hv
    obtain ⟨e0, h3, rfl⟩ := hv
    exact ⟨e0, h3, JE⟩
   obtain ⟨e0, Bz, U0⟩ := rI
   have Y6 : Instr.sameNow d u e0.key = some true := qg (P := P) hd hk hx U0 h2
   have h0m : e0 ∈ es := hp.mem_iff.1 (fO Bz)
   have pick : ∀ s, ∃ j, es[j]? = some e0 /\ Instr.findNow d u es s = some (some (s + j, e0.val)) := fun s => by
    rcases findNow_spec es s same with ⟨q1, _⟩ | ⟨j, e, q1, q2, q3⟩
    · rw [q1 e0 h0m] at Y6; cases Y6
    · obtain ⟨i', y, hy, BC, JG⟩ := mem e (fO q1)
      obtain ⟨b, hb⟩ := all y (fO hy)
      have Gr := qg (P := P) hd hk hx JG hb
      rw [q2] at Gr
      simp only [gD] at Gr
      subst Gr
      have xV := sE hb
      subst xV
      have hii := Ir hs h1 hy
      subst hii
      rw [Bz] at BC; cases BC
      exact ⟨j, q1, q3⟩
   obtain ⟨j, hj, hjf⟩ := pick 0
   refine .inr ⟨i, j, e0, by rw [cr], h1, Bz, hj, U0, fun s => ?_⟩
   have shift : ∀ (es : List MapEntry) (a b : Nat) j v, Instr.findNow d u es a = some (some (a + j, v)) -> Instr.findNow d u es b = some (some (b + j, v)) := fun es => by
    induction es with
    | nil => intro a b j v h; simp [Instr.findNow] at h
    | cons e es ih =>
      intro a b j v h
      simp only [Instr.findNow] at h ⊢
      cases Jz : Instr.sameNow d u e.key with
      | none => rw [Jz] at h; cases h
      | some t =>
        rw [Jz] at h
        cases t
        · dsimp only at h ⊢
          have hle : ∀ (es : List MapEntry) (a : Nat) r v, Instr.findNow d u es a = some (some (r, v)) -> a <= r := fun es => by
           induction es with
           | nil => intro a r v h; simp [Instr.findNow] at h
           | cons e es ih =>
             intro a r v h
             simp only [Instr.findNow] at h
             cases Jz : Instr.sameNow d u e.key with
             | none => rw [Jz] at h; cases h
             | some t =>
               rw [Jz] at h
               cases t
               · have := ih _ _ _ h; omega
               · simp at h; omega
          have h1 := hle _ _ _ _ h
          have := ih (a + 1) (b + 1) (j - 1) v (by rw [h]; congr 3; omega)
          rw [this]; congr 3; omega
        · simp at h ⊢; obtain ⟨h1, h2⟩ := h; exact ⟨by omega, h2⟩
   exact shift es 0 s j _ hjf
theorem OV {α : Type} {l m : List α} (h : l.Perm m) {i j : Nat} {e : α} (hi : l[i]? = some e) (hj : m[j]? = some e) (e' : α) : (l.set i e').Perm (m.set j e') := by
 obtain ⟨h1, h2⟩ := dF.1 hi
 obtain ⟨h3, h4⟩ := dF.1 hj
 have el : l = l.take i ++ e :: l.drop (i + 1) := by
  conv => lhs; rw [<- List.take_append_drop i l, gy h1, h2]
 have em : m = m.take j ++ e :: m.drop (j + 1) := by
  conv => lhs; rw [<- List.take_append_drop j m, gy h3, h4]
 rw [List.set_eq_take_append_cons_drop, if_pos h1, List.set_eq_take_append_cons_drop, if_pos h3]
 have hp : (l.take i ++ e :: l.drop (i + 1)).Perm (m.take j ++ e :: m.drop (j + 1)) := by rw [<- el, <- em]; exact h
 have h5 := (List.perm_middle.symm.trans hp).trans List.perm_middle
 have h6 := List.Perm.cons_inv h5
 exact (List.perm_middle.trans (h6.cons e')).trans List.perm_middle.symm
theorem run_checkKey {P : Program} {k : TypeId} {d : TypeDesc} {em : Bool} (hd : P.underlying k = some d) (hk : (∃ q, d = .int q) \/ d = .string) (n : Nat) (v : Value) : (Instr.checkKey em (n + 1) k v).run P w = .ok () w := by
 rcases hk with ⟨q, rfl⟩ | rfl <;> simp [Instr.checkKey, run_underlying hd]
theorem aE.set : ∀ {l : List AV} {vs : List Value} {x : AV} {u : Value} (i : Nat), aE g l vs -> az g x u -> aE g (l.set i x) (vs.set i u)
 | [], _, _, _, _, h, _ => by simp only [aE] at h; subst h; simp [aE]
 | y :: ys, _, x, u, 0, h, hx => by
   simp only [aE] at h
   obtain ⟨v, vs, rfl, h1, h2⟩ := h
   simp only [List.set_cons_zero, aE]
   exact ⟨u, vs, rfl, hx, h2⟩
 | y :: ys, _, x, u, i + 1, h, hx => by
   simp only [aE] at h
   obtain ⟨v, vs, rfl, h1, h2⟩ := h
   simp only [List.set_cons_succ, aE]
   exact ⟨v, _, rfl, h1, aE.set i h2 hx⟩
theorem DU {k v : AV} {e : MapEntry} (hk : az g k e.key) (hv : az g v e.val) : ∀ (ks vs : List AV) (l : List MapEntry), aE g ks (l.map (·.key)) -> aE g vs (l.map (·.val)) ->
 ∃ l' : List MapEntry, l'.Perm (e :: l) /\ aE g (fB k v ks vs).1 (l'.map (·.key)) /\ aE g (fB k v ks vs).2 (l'.map (·.val))
 | [], vs, l, h1, h2 => by
   simp only [aE, List.map_eq_nil_iff] at h1
   subst h1
   exact ⟨[e], List.Perm.refl _, by simp only [fB, dJ, hC, aE]; exact ⟨_, _, rfl, hk, rfl⟩, by simp only [fB, dJ, hC, aE]; exact ⟨_, _, rfl, hv, rfl⟩⟩
 | y :: ks, vs, [], h1, h2 => by simp [aE] at h1
 | y :: ks, [], f :: l, h1, h2 => by simp [aE] at h2
 | y :: ks, x :: vs, f :: l, h1, h2 => by
   simp only [fB]
   by_cases aJ : gS k y = true
   · rw [if_pos aJ]
     exact ⟨e :: f :: l, List.Perm.refl _, by rw [dJ]; simp only [aE] at h1 ⊢; exact ⟨_, _, rfl, hk, h1⟩, by rw [dJ]; simp only [aE] at h2 ⊢; exact ⟨_, _, rfl, hv, h2⟩⟩
   · rw [if_neg aJ]
     simp only [aE, dJ, List.cons.injEq] at h1 h2
     obtain ⟨_, _, ⟨rfl, rfl⟩, hy, h1⟩ := h1
     obtain ⟨_, _, ⟨rfl, rfl⟩, hx, h2⟩ := h2
     obtain ⟨l', h3, h4, h5⟩ := DU hk hv ks vs l h1 h2
     exact ⟨f :: l', ((h3.cons f).trans (List.Perm.swap e f l)), by simp only [dJ, aE]; exact ⟨_, _, rfl, hy, h4⟩, by simp only [dJ, aE]; exact ⟨_, _, rfl, hx, h5⟩⟩
theorem uu {k v : AV} : ∀ (ks vs : List AV) (z : AV), z ∈ (fB k v ks vs).1 -> z = k \/ z ∈ ks
 | [], vs, z, h => by simp [fB] at h; exact .inl h
 | y :: ks, vs, z, h => by
   simp only [fB] at h
   split at h
   · simpa using h
   · split at h
     · simp at h; exact .inl h
     · rename_i x xs
       simp only [dS] at h ⊢
       rcases h with h | h
       · exact .inr (.inl h)
       · rcases uu ks xs z h with h | h
         · exact .inl h
         · exact .inr (.inr h)
theorem xX {k v : AV} : ∀ (ks vs : List AV), mR ks -> (∀ y ∈ ks, gS k y = true \/ gS y k = true) -> mR (fB k v ks vs).1
 | [], vs, h1, h2 => by simp [fB, mR]
 | y :: ks, vs, h1, h2 => by
   unfold mR at h1 ⊢
   rw [List.pairwise_cons] at h1
   simp only [fB]
   split
   · rename_i aJ
     rw [List.pairwise_cons, List.pairwise_cons]
     refine ⟨fun z hz => ?_, h1⟩
     rcases dS.1 hz with rfl | hz
     · exact aJ
     · exact FC aJ (h1.1 z hz)
   · rename_i aJ
     split
     · simp
     · rename_i x xs
       rw [List.pairwise_cons]
       refine ⟨fun z hz => ?_, xX ks xs h1.2 fun z hz => h2 z (by simp [hz])⟩
       rcases uu ks xs z hz with rfl | hz
       · rcases h2 y (by simp) with h | h
         · exact absurd h aJ
         · exact h
       · exact h1.1 z hz
theorem iN.push {es : Array MapEntry} {clock : Nat} (h : iN es clock) (k v : Value) : iN (es.push ⟨k, v, clock⟩) (clock + 1) := by
 obtain ⟨h1, h2⟩ := h
 refine ⟨?_, fun e he => ?_⟩
 · simp only [Array.toList_push, List.map_append, dJ, hC]
   rw [List.nodup_append]
   refine ⟨h1, by simp, fun a ha b hb => ?_⟩
   simp at hb
   subst hb
   obtain ⟨e, he, rfl⟩ := List.mem_map.1 ha
   exact Nat.ne_of_lt (h2 e he)
 · simp only [Array.toList_push, eZ, mP] at he
   rcases he with he | rfl
   · have := h2 e he; omega
   · simp
theorem xC {es : Array MapEntry} {j : Nat} {e : MapEntry} (hj : es.toList[j]? = some e) (f : MapEntry -> MapEntry) : (es.modify j f).toList = es.toList.set j (f e) := by
 apply List.ext_getElem?
 intro i
 simp only [Array.toList_modify, List.getElem?_modify, List.getElem?_set]
 by_cases fS : j = i
 · subst fS
   have aJ := (dF.1 hj).1
   simp only [if_true, hj, if_pos aJ]; rfl
 · simp only [if_neg fS]
   cases es.toList[i]? <;> rfl
theorem iN.modify {es tb : Array MapEntry} {clock : Nat} (h : iN es clock) {j : Nat} {e e' : MapEntry} (hj : es.toList[j]? = some e) (hb : e'.born = e.born) (he : tb.toList = es.toList.set j e') : iN tb clock := by
 have hm : tb.toList.map (·.born) = es.toList.map (·.born) := by
  rw [he, List.map_set, hb]
  apply List.ext_getElem?
  intro i
  rw [List.getElem?_set]
  split
  · rename_i fS
    subst fS
    rw [kN, hj]
    have aJ := (dF.1 hj).1
    simp at aJ ⊢; exact aJ
  · rfl
 refine ⟨by rw [hm]; exact h.1, fun x hx => ?_⟩
 have : x.born ∈ tb.toList.map (·.born) := List.mem_map_of_mem hx
 rw [hm] at this
 obtain ⟨y, hy, hy2⟩ := List.mem_map.1 this
 rw [<- hy2]; exact h.2 y hy
theorem rV (h : aZ g U w) {t : TypeId} {m k x : AV} {vm vk vx : Value} (hm : az g m vm) (hk : az g k vk) (hx : az g x vx) :
 au.Fits C g U (oC C.P t m k x U) ((do Instr.mapUpdate t vm vk vx; pure Next.skip : Sem Next).run C.P w) := by
 unfold oC
 split
 · rename_i fk e id ht
   split
   · rename_i ks vs Dx
     obtain ⟨kt, hu, Vf⟩ := wm ht
     obtain ⟨d, hd, Ds⟩ : ∃ d, C.P.underlying kt = some d /\ ((fk = .i /\ ∃ q, d = .int q) \/ (fk = .s /\ d = .string)) := by
      rcases Vf with ⟨rfl, q, hq⟩ | ⟨rfl, hq⟩
      · exact ⟨_, hq, .inl ⟨rfl, q, rfl⟩⟩
      · exact ⟨_, hq, .inr ⟨rfl, rfl⟩⟩
     have OB : (∃ q, d = .int q) \/ d = .string := Ds.imp (·.2) (·.2)
     simp only [az] at hm
     obtain ⟨r, hr, rfl⟩ := hm
     obtain ⟨r', es, clock, q1, q2, q3, qb, ⟨l, q4, q5, q6, q7⟩, q8⟩ := h.mp id _ Dx
     rw [hr] at q1; cases q1
     have pR : (getObj r).run C.P w = .ok (.map es clock) w := by simp [getObj, Sem.run, q3]
     have Jn := run_checkKey (P := C.P) (w := w) (em := false) hd OB 9999 vk
     have um : ∀ o, (setObj r o).run C.P w = .ok () { w with heap := w.heap.setIfInBounds r o } := fun o => by simp [setObj, Sem.run, q3]
     split
     · rename_i hf Gk
       rcases yu (P := C.P) hd Ds hk q4 q5 q6 hf with ⟨_, ha, hn⟩ | ⟨i, _, _, he, _⟩
       · simp only [Instr.mapUpdate, bN, run_underlying hu, bX, pR, Jn, Instr.findKey, run_underlying hd, hn, cj, um]
         obtain ⟨l', p1, p2, p3⟩ := DU (e := ⟨vk, vx, clock⟩) hk hx ks vs l q6 q7
         refine ⟨undef, _, g, .inr ⟨rfl, rfl⟩, Gh.Le.refl g, h.KJ Dx (kv' := fB k x ks vs) hr q3 ⟨l', ?_, ?_, p2, p3⟩ (qb.push vk vx), by simp only [az]; exact ⟨[], rfl, by simp [aE]⟩⟩
         · rw [Array.toList_push]
           exact (p1.trans (q4.cons _)).trans (List.perm_append_singleton _ _).symm
         · exact xX ks vs q5 fun y hy => OI (ha y hy)
       · cases he
     · rename_i i hf Gk
       rcases yu (P := C.P) hd Ds hk q4 q5 q6 hf with ⟨he, _⟩ | ⟨i', j, e, he, Ve, rI, Jp, Qh, hn⟩
       · cases he
       · cases he
         have wc := hn 0
         rw [cr] at wc
         have aJ : j < es.size := by
          have := (dF.1 Jp).1
          simpa using this
         have aau : es[j]? = some e := by rw [<- jc]; exact Jp
         have Ys : Instr.sameBits 10000 e.key vk = true := by
          rcases Ds with ⟨rfl, _⟩ | ⟨rfl, _⟩ <;> cases k <;> simp only [ox, bo] at Gk
          · simp only [az] at hk Qh; rw [hk, Qh]; simp [Instr.sameBits]
          · simp only [az] at hk Qh; rw [hk, Qh]; simp [Instr.sameBits, beq_toListBytes]
         have Gr : (Instr.keyThatStays e.key vk).run C.P w = .ok vk w := by simp [Instr.keyThatStays, Ys]
         have aaB : ((es[j]?).map (·.key)).getD vk = e.key := by rw [aau]; rfl
         simp only [Instr.mapUpdate, bN, run_underlying hu, bX, pR, Jn, Instr.findKey, run_underlying hd, wc, cj, um, aaB, Gr]
         have Vm := xC Jp (fun e => { e with key := vk, val := vx })
         refine ⟨undef, _, g, .inr ⟨rfl, rfl⟩, Gh.Le.refl g, h.KJ Dx (kv' := (ks, vs.set i x)) hr q3 ⟨l.set i { e with key := vk, val := vx }, ?_, q5, ?_, ?_⟩ (qb.modify (e' := { e with key := vk, val := vx }) Jp rfl Vm), by simp only [az]; exact ⟨[], rfl, by simp [aE]⟩⟩
         · rw [Vm]; exact OV q4 rI Jp _
         · rw [List.map_set]
           have := q6.set i hk
           have e1 : ks.set i k = ks := by
            apply List.ext_getElem?
            intro a
            rw [List.getElem?_set]
            split
            · rename_i ha; subst ha
              split
              · exact Ve.symm
              · rename_i hn; exact absurd (dF.1 Ve).1 hn
            · rfl
           rw [e1] at this; exact this
         · rw [List.map_set]; exact q7.set i hx
     · trivial
   · trivial
 · trivial
theorem zN {fk : FK} {k z : AV} {ok : Bool} : ∀ (ks vs : List AV) (s : Nat), ks.length = vs.length -> kH fk k z ok ks vs = (match jS fk k ks s with
 | none => .bad
 | some none => .val (if ok then .aR [z, .bool false] else z)
 | some (some i) => .val (if ok then .aR [vs.getD (i - s) z, .bool true] else vs.getD (i - s) z))
 | [], [], s, _ => by simp [kH, jS]
 | [], _ :: _, s, h => by simp at h
 | _ :: _, [], s, h => by simp at h
 | y :: ks, v :: vs, s, h => by
   simp only [kH, jS]
   cases hb : fL fk k y with
   | none => rfl
   | some b =>
     cases b
     · simp only [bo, if_false]
       rw [zN ks vs (s + 1) (by simpa using h)]
       cases hf : jS fk k ks (s + 1) with
       | none => rfl
       | some r =>
         cases r with
         | none => rfl
         | some i =>
           rcases ue hf with ⟨h1, _⟩ | ⟨i', h1, _⟩
           · cases h1
           · cases h1
             have e1 : s + 1 + i' - (s + 1) = i' := by omega
             have e2 : s + 1 + i' - s = i' + 1 := by omega
             simp only [e1, e2, List.getD_cons_succ]
     · simp only [if_true, Nat.sub_self, List.getD_cons_zero]
theorem D5 (h : aZ g U w) {t : TypeId} {m k : AV} {vm vk : Value} {ok : Bool} (hm : az g m vm) (hk : az g k vk) :
 au.Fits C g U (tw C.P t m k ok U) ((do let r <- Instr.lookup t vm vk ok; pure (Next.value r) : Sem Next).run C.P w) := by
 unfold tw
 split
 · rename_i fk e ks vs ht he
   split
   · rename_i z hz Gk
     obtain ⟨kt, hu, Vf⟩ := wm ht
     obtain ⟨d, hd, Ds⟩ : ∃ d, C.P.underlying kt = some d /\ ((fk = .i /\ ∃ q, d = .int q) \/ (fk = .s /\ d = .string)) := by
      rcases Vf with ⟨rfl, q, hq⟩ | ⟨rfl, hq⟩
      · exact ⟨_, hq, .inl ⟨rfl, q, rfl⟩⟩
      · exact ⟨_, hq, .inr ⟨rfl, rfl⟩⟩
     have OB : (∃ q, d = .int q) \/ d = .string := Ds.imp (·.2) (·.2)
     obtain ⟨i, vz, hi, qV, JH⟩ : ∃ i vz, C.P.info? e = some i /\ i.zero = some vz /\ Bt vz = z := by
      unfold zeroV at hz
      cases hi : C.P.info? e with
      | none => simp [hi] at hz
      | some i =>
        cases lT : i.zero with
        | none => simp [hi, lT] at hz
        | some vz => simp [hi, lT] at hz; exact ⟨i, vz, rfl, lT, hz⟩
     have QC : az g z vz := by rw [<- JH]; exact AE vz
     obtain ⟨es, vZ, l, hp, aaM, h1, h2⟩ : ∃ es : Array MapEntry, ((vm = .map none /\ es = #[]) \/ ∃ r clock, vm = .map (some r) /\ w.heap[r]? = some (Obj.map es clock)) /\ tT g ks vs es := by
      cases m <;> simp only [kD, reduceCtorEq, gD, jM] at he
      · obtain ⟨rfl, rfl⟩ := he
        simp only [az] at hm; subst hm
        exact ⟨#[], .inl ⟨rfl, rfl⟩, [], List.Perm.refl _, by simp [mR], by simp [aE], by simp [aE]⟩
      · simp only [az] at hm
        obtain ⟨r, hr, rfl⟩ := hm
        obtain ⟨r', es, clock, q1, q2, q3, _, q4, _⟩ := h.mp _ _ he
        rw [hr] at q1; cases q1
        exact ⟨es, .inr ⟨r, clock, rfl, q3⟩, q4⟩
      · obtain ⟨rfl, rfl⟩ := he
        simp only [az] at hm
        obtain ⟨r, es, clock, l, rfl, hr, q0, q1, q2, q3⟩ := hm
        exact ⟨es, .inr ⟨r, clock, rfl, (h.bL r es clock hr).1⟩, l, q0, q1, q2, q3⟩
     have hlen : ks.length = vs.length := by
      have a := h1.length
      have b := h2.length
      simp at a b; omega
     rw [zN ks vs 0 hlen]
     cases hf : jS fk k ks 0 with
     | none => trivial
     | some r =>
       have Jn := run_checkKey (P := C.P) (w := w) (em := es.isEmpty) hd OB 9999 vk
       have key := yu (P := C.P) hd Ds hk hp aaM h1 hf
       have fin : ∀ q : Option (Nat × Value), Instr.findNow d vk es.toList 0 = some q -> (Instr.lookup t vm vk ok).run C.P w = (match q with
        | some (_, v) => .ok (if ok then .tuple #[v, .bool true] else v) w
        | none => .ok (if ok then .tuple #[vz, .bool false] else vz) w) := fun q hq => by
        rcases vZ with ⟨rfl, rfl⟩ | ⟨r, clock, rfl, hh⟩
        · simp only [Instr.lookup, bN, run_underlying hu, bX, cj, Jn, Instr.findKey, run_underlying hd, hq]
          cases q with
          | none => simp only [cj, bX, bN, fy hi qV]
          | some p => rfl
        · have pR : (getObj r).run C.P w = .ok (Obj.map es clock) w := by simp [getObj, Sem.run, hh]
          simp only [Instr.lookup, bN, run_underlying hu, bX, cj, pR, Jn, Instr.findKey, run_underlying hd, hq]
          cases q with
          | none => simp only [cj, bX, bN, fy hi qV]
          | some p => rfl
       rcases key with ⟨rfl, _, hn⟩ | ⟨i, j, e, rfl, _, rI, _, _, hn⟩
       · simp only [bN, fin _ (hn 0), bX, cj]
         refine aU h ?_
         cases ok
         · exact QC
         · simp only [if_true, az]
           exact ⟨[vz, .bool false], rfl, by simp only [aE]; exact ⟨_, _, rfl, QC, _, _, rfl, by simp only [az], rfl⟩⟩
       · simp only [bN, fin _ (hn 0), bX, cj, Nat.sub_zero]
         have hv : az g (vs.getD i z) e.val := by
          have aJ : i < vs.length := by
           have a := (dF.1 rI).1
           have b := h2.length
           simp at b; omega
          obtain ⟨v, hv, JE⟩ := h2.get (i := i) (x := vs[i]) (js aJ)
          rw [kN, rI] at hv
          simp at hv
          subst hv
          have : vs.getD i z = vs[i] := by simp [sJ, aJ]
          rw [this]; exact JE
         refine aU h ?_
         cases ok
         · exact hv
         · simp only [if_true, az]
           exact ⟨[e.val, .bool true], rfl, by simp only [aE]; exact ⟨_, _, rfl, hv, _, _, rfl, by simp only [az], rfl⟩⟩
   · trivial
 · trivial
theorem H0 (h : aZ g U w) : au.Fits C g U .CA (.ok (.value (.map (some w.heap.size))) (w.alloc (.map #[] 0))) := by
 obtain ⟨b, g', h1, h2, h3, h4⟩ := h.qZ (.map #[] 0) 0 0 (.mp [] []) fun g' hle hi hm => ⟨#[], 0, heap_alloc_new w _, ⟨by simp, by simp⟩, ⟨[], List.Perm.refl _, by simp [mR], by simp [aE], by simp [aE]⟩, hm⟩
 exact ⟨_, _, g', b, rfl, h1, h2, h4, by simp only [NV.at, az]; exact ⟨_, Gh.nc.2 ⟨_, h3, rfl⟩, rfl⟩⟩
end
end Go.Rip
namespace Go.Rip
open Go.RowKit
def aQ (c a b : AV) : au :=
 match c with
 | .bool t => .val (if t = true then a else b)
 | _ => .bad
def wZ (P : Program) (s f : Nat) : Option (Nat × Bool × Nat) :=
 match P.underlying s with
 | some (.struct fields) => match fields[f]? with
   | some x => match lA P x.type with
     | some (b, n) => some (x.offset, b, n)
     | none => none
   | none => none
 | _ => none
def vQ (P : Program) (s : TypeId) (x : AV) (f : Nat) : au :=
 match wZ P s f, x with
 | some (o, true, n), .agg l => .cond (o + n <= l.length) (.val (.agg ((l.drop o).take n)))
 | some (o, false, _), .agg l => gg (l.drop o)
 | _, _ => .bad
def gp (P : Program) (f : AV) (args : List AV) : au :=
 match f with
 | .func (.func g) first cap => if eg P g = true then .enter g (first ++ args ++ cap) else .bad
 | .pN o => .yield o args
 | _ => .bad
def Er (P : Program) (t : TypeId) (m : AV) : au :=
 match oB P t, m with
 | some _, .eR ks vs => .new .it none (.iter (ks.zip vs) none)
 | _, _ => .bad
def ql : List (AV × AV) -> List ((AV × AV) × List (AV × AV))
 | [] => []
 | x :: xs => (x, xs) :: (ql xs).map fun p => (p.1, x :: p.2)
def qk (i : AV) (U : St) : au :=
 match i with
 | .it o => match U.iter o with
   | some ([], _) => .val (.aR [.bool false])
   | some (x :: xs, _) => .jz o ((ql (x :: xs)).map fun p => (.aR [.bool true, p.1.1, p.1.2], .iter p.2 (some p.1)))
   | none => .bad
 | _ => .bad
def mS (i : AV) (U : St) : au :=
 match i with
 | .it o => match U.iter o with
   | some (_, some kv) => .val (.aR [kv.1, kv.2])
   | _ => .bad
 | _ => .bad
def wV (P : Program) (t : TypeId) : Option AV :=
 match P.underlying t with
 | some (.interface _) => none
 | some _ => zeroV P t
 | none => none
def sQ (P : Program) (x : AV) (t : TypeId) (ok : Bool) : au :=
 match wV P t, x with
 | some z, .iface u v => if u = t then .val (if ok then .aR [v, .bool true] else v) else if ok then .val (.aR [z, .bool false]) else .bad
 | some z, .cW => if ok then .val (.aR [z, .bool false]) else .bad
 | _, _ => .bad
def qh (P : Program) (t : TypeId) (mu : Bool) (l c : AV) : au :=
 match ey P t, l, c with
 | some (e, sz), .int _ l, .int _ c => match ny P e with
   | some z => .cond (0 <= l /\ l = c /\ c <= 65536) (if mu then .mq l.toNat sz e none (bK l.toNat z) else .kY l.toNat (bK l.toNat z) none ⟨l.toNat, e, sz⟩)
   | none => .bad
 | _, _, _ => .bad
def vL (P : Program) (t : TypeId) (x : AV) (U : St) : au :=
 match ey P t, x with
 | some (e, sz), .ms b off n gN _ => match U.box b, ny P e with
   | some l, some z => .cond (gN = sz /\ off + n * sz <= l.length) (.jQ (.aR []) b (.box (aB l off (bK n z))))
   | _, _ => .bad
 | _, _ => .bad
def zm (P : Program) (t u : TypeId) : Option (TypeId × Nat × List AV) :=
 match P.underlying u with
 | some (.int _) => match ey P t with
   | some (e, sz) => match ny P e with
     | some z => some (e, sz, z)
     | none => none
   | none => none
 | _ => none
def w8 (q : TypeId × Nat × List AV) (mu : Bool) (s y : AV) : au :=
 match s, y with
 | .al, .int _ n => .cond (0 < n /\ n <= 65536) (if mu then .mq n.toNat q.2.1 q.1 none (bK n.toNat q.2.2) else .kY n.toNat (bK n.toNat q.2.2) none ⟨n.toNat, q.1, q.2.1⟩)
 | _, _ => .bad
def vJ (st : Option (TypeId × Nat)) (x : AV) : au := match st, x with
 | some _, .al => .val (.int .i64 0)
 | _, _ => .bad
def wU (P : Program) (t u : TypeId) (mu : Bool) (s y : AV) (U : St) : au :=
 match zm P t u with
 | some q => w8 q mu s y
 | none => Ax P t u mu s y U
def wW (C : cw) (mu : Bool) (c : Call) (ρ : Env) (U : St) : au :=
 match c.callee, c.argTypes.toList, c.args.toList with
 | .value f, _, args => gp C.P (ρ.ev C f) (args.map (ρ.ev C))
 | .builtin .len, [t], [x] => D3 C.P t (ρ.ev C x) U
 | .builtin .append, [t, u], [s, y] => wU C.P t u mu (ρ.ev C s) (ρ.ev C y) U
 | .builtin .cap, [t], [x] => vJ (ey C.P t) (ρ.ev C x)
 | .builtin .min, _, [x, y] => sG (ρ.ev C x) (ρ.ev C y)
 | .builtin .max, _, [x, y] => yC (ρ.ev C x) (ρ.ev C y)
 | .builtin .clear, [t], [x] => vL C.P t (ρ.ev C x) U
 | _, _, _ => .bad
def gY (C : cw) (mu : Bool) (o : Op) (ρ : Env) (U : St) : au :=
 match o with
 | .move x | .assign x => .val (ρ.ev C x)
 | .pick c a b => aQ (ρ.ev C c) (ρ.ev C a) (ρ.ev C b)
 | .alloc t => CT C.P t
 | .box _ x => fh (ρ.ev C x)
 | .build t parts => C0 C.P t (jY C ρ parts)
 | .buildSlice t n parts => pk C.P t n mu (jY C ρ parts)
 | .insert t m k v | .mapUpdate t m k v => oC C.P t (ρ.ev C m) (ρ.ev C k) (ρ.ev C v) U
 | .load t a => rR C.P t (ρ.ev C a) U
 | .store t a v => EE C.P t (ρ.ev C a) (ρ.ev C v) U
 | .nilCheck x => bF (ρ.ev C x)
 | .binOp op t x y _ => CZ C.P op t (isLit x || isLit y) (ρ.ev C x) (ρ.ev C y)
 | .unOp op _ x => fF op (ρ.ev C x)
 | .convert s d x => Cu C.P s d (ρ.ev C x)
 | .makeInterface t x => uz C.P t (ρ.ev C x)
 | .makeFunc fn first cap => .val (.func fn (first.toList.map (ρ.ev C)) (cap.toList.map (ρ.ev C)))
 | .makeMap _ none => .CA
 | .slice t x lo hi none => Ey C.P t (ρ.ev C x) (lo.map (ρ.ev C)) (hi.map (ρ.ev C))
 | .fieldAddr s x f => ud C.P s (ρ.ev C x) f
 | .field s x f => vQ C.P s (ρ.ev C x) f
 | .indexAddr t x i => ur C.P t (ρ.ev C x) (ρ.ev C i)
 | .index t x i => zI C.P t (ρ.ev C x) (ρ.ev C i)
 | .lookup t m k ok => tw C.P t (ρ.ev C m) (ρ.ev C k) ok U
 | .extract t i => bq (ρ.ev C t) i
 | .panic x => oD (ρ.ev C x)
 | .range t m => Er C.P t (ρ.ev C m)
 | .typeAssert x _ t ok => sQ C.P (ρ.ev C x) t ok
 | .makeSlice t l c => qh C.P t mu (ρ.ev C l) (ρ.ev C c)
 | .next i false => qk (ρ.ev C i) U
 | .entry i => mS (ρ.ev C i) U
 | .call c => wW C mu c ρ U
 | _ => .bad
section
variable {C : cw} {g : Gh} {U : St} {w : World}
theorem AH (h : aZ g U w) {s f : Nat} {x : AV} {v : Value} (hx : az g x v) : au.Fits C g U (vQ C.P s x f) ((do let r <- Instr.field s v f; pure (Next.value r) : Sem Next).run C.P w) := by
 unfold vQ
 have key : ∀ {o b n}, wZ C.P s f = some (o, b, n) -> ∃ fs y i d, C.P.underlying s = some (.struct fs) /\ fs[f]? = some y /\ y.offset = o /\ C.P.info? y.type = some i /\ C.P.underlying y.type = some d /\ Av d = b /\ i.size = n := fun {o b n} hf => by
  unfold wZ at hf
  split at hf
  · rename_i fs hu
    split at hf
    · rename_i y hy
      split at hf
      · rename_i b' n' hv
        simp only [gD, jM] at hf
        obtain ⟨rfl, rfl, rfl⟩ := hf
        obtain ⟨i, d, h1, h2, h3, h4⟩ := mf hv
        exact ⟨fs, y, i, d, hu, hy, rfl, h1, h2, h3, h4⟩
      · cases hf
    · cases hf
  · cases hf
 split
 · rename_i o n l hf
   obtain ⟨fs, y, i, d, hu, hy, rfl, hi, hd, ha, rfl⟩ := key hf
   intro hle
   simp only [az] at hx
   obtain ⟨vs, rfl, h1, hr⟩ := hx
   simp only [Instr.field, bN, run_underlying hu, bX, hy, asAgg, cj, part, jD hd, ha, if_true, eu, dW hi]
   refine aU h ?_
   simp only [az]
   refine ⟨(vs.drop y.offset).take i.size, ?_, fun u hu => h1 u (List.mem_of_mem_drop (List.mem_of_mem_take hu)), (hr.drop _).take _⟩
   congr 1
   apply Array.ext'
   simp [List.extract_eq_take_drop]
 · rename_i o n l hf
   obtain ⟨fs, y, i, d, hu, hy, rfl, hi, hd, ha, rfl⟩ := key hf
   simp only [az] at hx
   obtain ⟨vs, rfl, h1, hr⟩ := hx
   cases hl : l.drop y.offset with
   | nil => trivial
   | cons z zs =>
     have hz : l[y.offset]? = some z := by
      have := congrArg (fun l => l[0]?) hl
      simpa using this
     obtain ⟨u, mE, VL⟩ := hr.get hz
     have e : vs.toArray[y.offset]? = some u := by simpa using mE
     simp only [Instr.field, bN, run_underlying hu, bX, hy, asAgg, cj, part, jD hd, ha, bo, if_false, eu, e]
     exact aU h VL
 · trivial
theorem wY (hG : fU C g) {ρ : Env} {a : Act} (hr : fA g ρ a.tmps) : ∀ l : List Operand, aE g (l.map (ρ.ev C)) (l.map a.eval)
 | [] => by simp [aE]
 | x :: l => by simp only [dJ, aE]; exact ⟨_, _, rfl, qK hG hr x, wY hG hr l⟩
theorem Oi (h : aZ g U w) {f : AV} {vf : Value} {args : List AV} {vs : List Value} (hf : az g f vf) (ha : aE g args vs) :
 au.Fits C g U (gp C.P f args) ((do let d <- Deferred.ofValue vf vs.toArray; invoke d.target d.args : Sem Next).run C.P w) := by
 unfold gp
 split
 · rename_i q first cap
   split
   · rename_i he
     simp only [az] at hf
     obtain ⟨fs, cs, rfl, h1, h2⟩ := hf
     unfold eg at he
     split at he
     · rename_i fn hfn
       simp only [bR, Bool.not_eq_true'] at he
       have hb : fn.body.isNone = false := by cases hb : fn.body <;> simp_all
       simp only [Deferred.ofValue, invoke, callFunc, bN, cj, bX, run_program, hfn, he.2, hb, bo, if_false, eu]
       exact ⟨fs ++ vs ++ cs, w, by simp, h, (h1.append ha).append h2⟩
     · cases he
   · trivial
 · rename_i o
   simp only [az] at hf
   obtain ⟨x, hx, rfl⟩ := hf
   simp only [Deferred.ofValue, invoke, bN, cj, bX]
   exact ⟨vs, x, w, w, hx, by simp, rfl, h, ha⟩
 · trivial
theorem yS (h : aZ g U w) {x : AV} {v : Value} {xt t : TypeId} {ok : Bool} (hx : az g x v) :
 au.Fits C g U (sQ C.P x t ok) ((do let r <- Instr.typeAssert v xt t ok; pure (Next.value r) : Sem Next).run C.P w) := by
 have key : ∀ {z : AV}, wV C.P t = some z -> ∃ d i vz, C.P.underlying t = some d /\ (∀ ms, d ≠ .interface ms) /\ C.P.info? t = some i /\ i.zero = some vz /\ az g z vz := fun {z} hz => by
  unfold wV at hz
  split at hz
  · cases hz
  · rename_i d hn hd
    unfold zeroV at hz
    cases hi : C.P.info? t with
    | none => simp [hi] at hz
    | some i =>
      cases lT : i.zero with
      | none => simp [hi, lT] at hz
      | some vz => simp [hi, lT] at hz; exact ⟨d, i, vz, hd, fun ms e => hn ms e, rfl, lT, by rw [<- hz]; exact AE vz⟩
  · cases hz
 unfold sQ
 split
 · rename_i z u y hz
   obtain ⟨d, i, vz, hd, hn, hi, lT, JH⟩ := key hz
   simp only [az] at hx
   obtain ⟨q, rfl, hq⟩ := hx
   have fK : (Instr.typeAssert (.iface u q) xt t ok).run C.P w = (if u = t then .ok (if ok then .tuple #[q, .bool true] else q) w else if ok then .ok (.tuple #[vz, .bool false]) w else (Instr.typeAssert (.iface u q) xt t ok).run C.P w) := by
    by_cases hu : u = t
    · rw [if_pos hu]
      cases d <;> first
       | exact absurd rfl (hn _)
       | (cases ok <;> simp [Instr.typeAssert, run_underlying hd, hu])
    · rw [if_neg hu]
      cases ok
      · rfl
      · cases d <;> first
         | exact absurd rfl (hn _)
         | simp [Instr.typeAssert, run_underlying hd, hu, fy hi lT]
   split
   · rename_i hu
     rw [bN, fK, if_pos hu]
     refine aU h ?_
     cases ok
     · exact hq
     · simp only [if_true, az, aE]; exact ⟨_, rfl, _, _, rfl, hq, _, _, rfl, rfl, rfl⟩
   · rename_i hu
     split
     · rename_i cF
       rw [bN, fK, if_neg hu, if_pos cF]
       exact aU h (by simp only [az, aE]; exact ⟨_, rfl, _, _, rfl, JH, _, _, rfl, rfl, rfl⟩)
     · trivial
 · rename_i z hz
   obtain ⟨d, i, vz, hd, hn, hi, lT, JH⟩ := key hz
   simp only [az] at hx
   subst hx
   split
   · rename_i cF
     subst cF
     have fK : (Instr.typeAssert .nilIface xt t true).run C.P w = .ok (.tuple #[vz, .bool false]) w := by
      cases d <;> first
       | exact absurd rfl (hn _)
       | simp [Instr.typeAssert, run_underlying hd, fy hi lT]
     rw [bN, fK]
     exact aU h (by simp only [az, aE]; exact ⟨_, rfl, _, _, rfl, JH, _, _, rfl, rfl, rfl⟩)
   · trivial
 · trivial
theorem zQ (h : aZ g U w) {t : TypeId} {mu : Bool} {l c : AV} {vl vc : Value} (hl : az g l vl) (hc : az g c vc) :
 au.Fits C g U (qh C.P t mu l c) ((do let x <- Instr.makeSlice t vl vc; pure (Next.value x) : Sem Next).run C.P w) := by
 unfold qh
 split
 · rename_i e sz kl l kc c hs
   split
   · rename_i z hz
     rintro ⟨h0, rfl, h1⟩
     obtain ⟨i, zv, hu, hi, lT, tl, dD, nA, hb, _⟩ := gj hs
     obtain ⟨i', Xf, iu, BL, hm⟩ := kT hz
     rw [hi] at iu; cases iu
     rw [lT] at BL; cases BL
     obtain ⟨h2, h3⟩ := dV (g := g) hm
     simp only [az] at hl hc
     subst hl hc
     have UW : (i.bytes : Int) * l <= 281474976710656 := by
      have e1 : (i.bytes : Int) * l <= 32768 * l := Int.mul_le_mul_of_nonneg_right (by omega) h0
      omega
     have fK := run_make (P := C.P) w t e i zv hu hi lT kl kc l l h0 (Int.le_refl _) UW (by omega)
     have we := qu (g := g) h2 l.toNat
     have Vl : madeCells zv.cells (l.toNat * i.size) = (Array.range (l.toNat * zv.cells.size)).map (zv.cells[· % zv.cells.size]!) := by rw [dD, <- tl]; rfl
     have sC : ∀ u ∈ (madeCells zv.cells (l.toNat * i.size)).toList, u.oneCell' = true := fun u hu => by
      rw [Vl] at hu
      simp only [Array.toList_map, List.mem_map] at hu
      obtain ⟨j, _, rfl⟩ := hu
      have aJ : j % zv.cells.size < zv.cells.size := Nat.mod_lt _ (by omega)
      rw [getElem!_pos zv.cells _ aJ]
      exact h3 _ (by simp)
     rw [<- Vl] at we
     have hlen : (madeCells zv.cells (l.toNat * i.size)).toList.length = l.toNat * sz := by rw [Vl]; simp [tl]
     have DO : z.length = sz := by have := h2.length; simp at this; omega
     simp only [bN, fK, bX, cj]
     cases mu
     · have := mU (C := C) (del := none) (e := e) (sz := sz) (n := l.toNat) (c := l.toNat) h (vs := (madeCells zv.cells (l.toNat * i.size)).toList) (rest := []) we sC (by simp) (by rw [ju, DO]) (by simpa using hlen) (cX _) (by unfold maxLen; omega)
       simpa using this
     · have := oq (C := C) (del := none) (e := e) (sz := sz) (n := l.toNat) (c := l.toNat) h (vs := (madeCells zv.cells (l.toNat * i.size)).toList) (rest := []) we sC (by simp) (by simpa using hlen) (cX _) (by unfold maxLen; omega)
       simpa using this
   · trivial
 · trivial
theorem Fh (h : aZ g U w) {t ty : TypeId} {x : AV} {v : Value} (hx : az g x v) :
 au.Fits C g U (vL C.P t x U) ((do let r <- Builtin.clear_ #[t] ty #[v]; pure (Next.value r) : Sem Next).run C.P w) := by
 unfold vL
 split
 · rename_i e sz b off n gN e' hs
   split
   · rename_i l z hb hz
     rintro ⟨rfl, h1⟩
     obtain ⟨i, zv, hu, hi, lT, tl, dD, nA, _⟩ := gj hs
     obtain ⟨i', Xf, iu, BL, hm⟩ := kT hz
     rw [hi] at iu; cases iu
     rw [lT] at BL; cases BL
     obtain ⟨h2, h3⟩ := dV (g := g) hm
     simp only [az] at hx
     obtain ⟨y, c, hy, rfl, _⟩ := hx
     have DO : z.length = gN := by have := h2.length; simp at this; omega
     have we := qu (g := g) h2 n
     have VK : Builtin.zeroCells zv.cells n = (Array.range (n * zv.cells.size)).map (zv.cells[· % zv.cells.size]!) := rfl
     obtain ⟨w', fp, dL⟩ := tG (C := C) (off := off) h hb hy we (jU h3 n (by omega)) (by rw [ju, DO]; exact h1)
     rw [<- VK] at fp
     by_cases hn : n = 0
     · subst hn
       have e0 : U.bU b (aB l off (bK 0 z)) = U.bU b l := by simp [aB, bK]
       simp only [Builtin.clear_, bN, cj, bX]
       simp [run_underlying hu]
       refine ⟨_, w, g, .inl rfl, Gh.Le.refl g, ?_, by simp only [az]; exact ⟨[], rfl, by simp [aE]⟩⟩
       show aZ g (U.bU b (aB l off (bK 0 z))) w
       rw [e0]; exact h.YF hb
     · have hz2 := fy (P := C.P) hi lT w
       have UX : (Builtin.clear_ #[t] ty #[.slice (some ⟨y.aH, off, none⟩) n c]).run C.P w = .ok (.tuple #[]) w' := by
        simp [Builtin.clear_, run_underlying hu, hz2, fp, hn]
       simp only [bN, UX, bX, cj]
       exact ⟨_, w', g, .inl rfl, Gh.Le.refl g, dL, by simp only [az]; exact ⟨[], rfl, by simp [aE]⟩⟩
   · trivial
 · trivial
theorem yj : ∀ {ks vs : List AV}, ks.length = vs.length -> (ks.zip vs).map (·.1) = ks
 | [], [], _ => rfl
 | [], _ :: _, h => by simp at h
 | _ :: _, [], h => by simp at h
 | k :: ks, v :: vs, h => by simp only [List.zip_cons_cons, dJ]; rw [yj (by simpa using h)]
theorem yk : ∀ {ks vs : List AV}, ks.length = vs.length -> (ks.zip vs).map (·.2) = vs
 | [], [], _ => rfl
 | [], _ :: _, h => by simp at h
 | _ :: _, [], h => by simp at h
 | k :: ks, v :: vs, h => by simp only [List.zip_cons_cons, dJ]; rw [yk (by simpa using h)]
theorem FM (h : aZ g U w) {t : TypeId} {m : AV} {v : Value} (hm : az g m v) : au.Fits C g U (Er C.P t m) ((do let x <- Instr.range t v; pure (Next.value x) : Sem Next).run C.P w) := by
 unfold Er
 split
 · rename_i p ks vs ht
   obtain ⟨fk, e⟩ := p
   obtain ⟨kt, hu, _⟩ := wm ht
   simp only [az] at hm
   obtain ⟨r, es, clock, l, rfl, hr, hp, hs, h1, h2⟩ := hm
   obtain ⟨q1, q2⟩ := h.bL r es clock hr
   have hlen : ks.length = vs.length := by
    have a := h1.length
    have b := h2.length
    simp at a b; omega
   have pR : (getObj r).run C.P w = .ok (.map es clock) w := by simp [getObj, Sem.run, q1]
   obtain ⟨b, g', f1, f2, f3, f4⟩ := h.qZ (.mapIter (some r) clock #[] clock) 0 0 (.iter (ks.zip vs) none) fun g' hle hi Jw =>
    ⟨r, es, clock, #[], heap_alloc_new w _, hle.bL _ _ hr, ⟨l, by
      have : (es.toList.filter fun e => !(#[] : Array Nat).contains e.born) = es.toList := by simp
      rw [this]; exact hp, by rw [yj hlen]; exact h1.mono hle, by rw [yk hlen]; exact h2.mono hle⟩, trivial⟩
   simp only [Instr.range, bN, run_underlying hu, bX, pR, cj, run_newObj]
   exact ⟨_, _, g', b, rfl, f1, f2, f4, by simp only [NV.at, az]; exact ⟨_, f3, rfl⟩⟩
 · trivial
theorem B7 : ∀ {l : List (AV × AV)} {i : Nat} {x : AV × AV}, l[i]? = some x -> (x, l.eraseIdx i) ∈ ql l
 | [], i, x, h => by simp at h
 | y :: l, 0, x, h => by simp at h; subst h; simp [ql]
 | y :: l, i + 1, x, h => by
   simp only [List.getElem?_cons_succ] at h
   simp only [ql, List.eraseIdx_cons_succ, dS, List.mem_map]
   exact .inr ⟨_, B7 h, rfl⟩
theorem aE.eraseIdx : ∀ {l : List AV} {vs : List Value} (i : Nat), aE g l vs -> aE g (l.eraseIdx i) (vs.eraseIdx i)
 | [], _, _, h => by simp only [aE] at h; subst h; simp [aE]
 | y :: ys, _, 0, h => by
   simp only [aE] at h
   obtain ⟨v, vs, rfl, h1, h2⟩ := h
   simpa using h2
 | y :: ys, _, i + 1, h => by
   simp only [aE] at h
   obtain ⟨v, vs, rfl, h1, h2⟩ := h
   simp only [List.eraseIdx_cons_succ, aE]
   exact ⟨v, _, rfl, h1, aE.eraseIdx i h2⟩
theorem kX {α β : Type} (f : α -> β) : ∀ (l : List α) (i : Nat), (l.eraseIdx i).map f = (l.map f).eraseIdx i
 | [], i => by simp
 | x :: l, 0 => by simp
 | x :: l, i + 1 => by simp [kX f l i]
theorem Cp {α : Type} {l m : List α} (h : l.Perm m) {i j : Nat} {e : α} (hi : l[i]? = some e) (hj : m[j]? = some e) : (l.eraseIdx i).Perm (m.eraseIdx j) := by
 obtain ⟨h1, h2⟩ := dF.1 hi
 obtain ⟨h3, h4⟩ := dF.1 hj
 have el : l = l.take i ++ e :: l.drop (i + 1) := by
  conv => lhs; rw [<- List.take_append_drop i l, gy h1, h2]
 have em : m = m.take j ++ e :: m.drop (j + 1) := by
  conv => lhs; rw [<- List.take_append_drop j m, gy h3, h4]
 have hp : (l.take i ++ e :: l.drop (i + 1)).Perm (m.take j ++ e :: m.drop (j + 1)) := by rw [<- el, <- em]; exact h
 have h5 := (List.perm_middle.symm.trans hp).trans List.perm_middle
 rw [List.eraseIdx_eq_take_drop_succ, List.eraseIdx_eq_take_drop_succ]
 exact List.Perm.cons_inv h5
theorem Fo {es : List MapEntry} (hn : (es.map (·.born)).Nodup) {seen : Array Nat} {e : MapEntry} {j : Nat} (hj : (es.filter fun x => !seen.contains x.born)[j]? = some e) :
 (es.filter fun x => !(seen.push e.born).contains x.born) = (es.filter fun x => !seen.contains x.born).eraseIdx j := by
 have e1 : (es.filter fun x => !(seen.push e.born).contains x.born) = (es.filter fun x => !seen.contains x.born).filter fun x => x.born != e.born := by
  rw [List.filter_filter]
  apply List.filter_congr
  intro x _
  simp only [Array.contains_push, Bool.not_or]
  rw [Bool.and_comm]
  congr 1
 rw [e1]
 have Gm : ((es.filter fun x => !seen.contains x.born).map (·.born)).Nodup := List.Nodup.sublist (List.Sublist.map _ List.filter_sublist) hn
 generalize (es.filter fun x => !seen.contains x.born) = l at hj Gm
 clear e1 hn es
 induction l generalizing j with
 | nil => simp at hj
 | cons y l ih =>
   simp only [dJ, List.nodup_cons] at Gm
   cases j with
   | zero =>
     simp at hj; subst hj
     simp only [List.filter_cons, bne_self_eq_false, bo, if_false, List.eraseIdx_zero, List.tail_cons]
     rw [List.filter_eq_self]
     intro x hx
     simp only [bne_iff_ne, ne_eq]
     intro he
     exact Gm.1 (he ▸ List.mem_map_of_mem hx)
   | succ j =>
     simp only [List.getElem?_cons_succ] at hj
     have bW : y.born ≠ e.born := fun he => Gm.1 (he ▸ List.mem_map_of_mem (fO hj))
     simp only [List.filter_cons, bne_iff_ne, ne_eq, bW, not_false_eq_true, if_true, List.eraseIdx_cons_succ]
     rw [ih hj Gm.2]
theorem H2 (h : aZ g U w) {i : AV} {v : Value} {ty : TypeId} (hi : az g i v) : au.Fits C g U (qk i U) ((do let x <- Instr.next v false ty; pure (Next.value x) : Sem Next).run C.P w) := by
 unfold qk
 split
 · rename_i o
   simp only [az] at hi
   obtain ⟨p, hp, rfl⟩ := hi
   split
   · rename_i cur hit
     obtain ⟨p', k1, k2, m, es, clock, seen, k3, k4, ⟨l, k5, k6, k7⟩, k8⟩ := h.live o _ (St.uy.1 hit)
     rw [hp] at k1; cases k1
     obtain ⟨q1, q2⟩ := h.bL m es clock k4
     simp only [hC, aE, List.map_eq_nil_iff] at k6
     subst k6
     have AN := k5.symm.eq_nil
     have Js : (getObj p.aH).run C.P w = .ok (.mapIter (some m) clock seen clock) w := by simp [getObj, Sem.run, k3]
     have Jt : (getObj m).run C.P w = .ok (.map es clock) w := by simp [getObj, Sem.run, q1]
     have Ht : (!seen.isEmpty && !es.isEmpty && es.all (fun e => decide (e.born >= clock))) = false := by
      cases he : es.isEmpty
      · have : es.all (fun e => decide (e.born >= clock)) = false := by
         rw [Array.all_eq_false]
         have h0 : 0 < es.size := by
          rcases Nat.eq_zero_or_pos es.size with h0 | h0
          · simp [Array.isEmpty, h0] at he
          · exact h0
         refine ⟨0, h0, ?_⟩
         have := q2.2 es[0] (by simp)
         simp; omega
        simp [this]
      · simp
     have Yk : (es.filter fun e => !seen.contains e.born) = #[] := by
      apply Array.ext'
      simpa using AN
     simp only [Instr.next, bN, Js, bX, Jt, Ht, eu, bo, if_false, cj, Yk]
     have e2 : (#[] : Array MapEntry).filter (fun e => decide (e.born < clock)) = #[] := by simp
     have e3 : (#[] : Array MapEntry).filter (fun e => decide (e.born >= clock)) = #[] := by simp
     simp [choose, Sem.run, Question.forced, Result.andThen]
     exact aU h (by simp only [az, aE]; exact ⟨[.bool false], rfl, _, _, rfl, rfl, rfl⟩)
   · rename_i x xs cur hit
     obtain ⟨p', k1, k2, m, es, clock, seen, k3, k4, ⟨l, k5, k6, k7⟩, k8⟩ := h.live o _ (St.uy.1 hit)
     rw [hp] at k1; cases k1
     obtain ⟨q1, q2⟩ := h.bL m es clock k4
     have Js : (getObj p.aH).run C.P w = .ok (.mapIter (some m) clock seen clock) w := by simp [getObj, Sem.run, k3]
     have Ht : (!seen.isEmpty && !es.isEmpty && es.all (fun e => decide (e.born >= clock))) = false := by
      cases he : es.isEmpty
      · have : es.all (fun e => decide (e.born >= clock)) = false := by
         rw [Array.all_eq_false]
         have h0 : 0 < es.size := by
          rcases Nat.eq_zero_or_pos es.size with h0 | h0
          · simp [Array.isEmpty, h0] at he
          · exact h0
         refine ⟨0, h0, ?_⟩
         have := q2.2 es[0] (by simp)
         simp; omega
        simp [this]
      · simp
     generalize hL : (es.filter fun e => !seen.contains e.born) = L
     have Ge : (es.toList.filter fun e => !seen.contains e.born) = L.toList := by rw [<- hL]; simp
     rw [Ge] at k5
     have kF : ∀ e ∈ L.toList, e ∈ es.toList := fun e he => by rw [<- Ge] at he; exact (List.mem_filter.1 he).1
     have hlen : l.length = xs.length + 1 := by have := k6.length; simpa using this
     have Jh : L.size = xs.length + 1 := by rw [<- hlen, k5.length_eq]; simp
     have hold : L.filter (fun e => decide (e.born < clock)) = L := by
      apply Array.ext'
      rw [Array.toList_filter, List.filter_eq_self]
      intro e he
      have := q2.2 e (kF e he)
      simpa using this
     have nz : L.filter (fun e => decide (e.born >= clock)) = #[] := by
      apply Array.ext'
      rw [Array.toList_filter]
      apply List.filter_eq_nil_iff.2
      intro e he
      have := q2.2 e (kF e he)
      simp; omega
     have hem : L.isEmpty = false := by simp [Array.isEmpty, Jh]
     have key : ∀ (w1 : World) (c : Nat), w1.heap = w.heap -> w1.os = w.os -> w1.tape = w.tape -> w1.output = w.output -> c < L.size ->
      ∀ e, L[c]? = some e -> ∃ u w' g' v x', (setObj p.aH (.mapIter (some m) clock (seen.push e.born) clock)).run C.P w1 = .ok () w' /\ u = Value.tuple #[.bool true, e.key, e.val] /\
       (v, x') ∈ (ql (x :: xs)).map (fun p => (AV.aR [.bool true, p.1.1, p.1.2], Live.iter p.2 (some p.1))) /\ Gh.Le g g' /\ aZ g' (U.set o x') w' /\ az g' v u := fun w1 c e1 e2 e3 e4 hc e he => by
      have jP : L.toList[c]? = some e := by rw [jc]; exact he
      obtain ⟨a, ha⟩ := List.getElem?_of_mem (k5.mem_iff.2 (fO jP))
      have Dk : a < (x :: xs).length := by
       have := (dF.1 ha).1
       rw [hlen] at this; simpa using this
      have QB : (x :: xs)[a]? = some ((x :: xs)[a]) := js Dk
      generalize (x :: xs)[a] = kv at QB
      obtain ⟨vk, p5, nY⟩ := k6.get (i := a) (x := kv.1) (by rw [kN, QB]; rfl)
      obtain ⟨vv, VD, fE⟩ := k7.get (i := a) (x := kv.2) (by rw [kN, QB]; rfl)
      rw [kN, ha] at p5 VD
      simp at p5 VD
      subst p5 VD
      have um : (setObj p.aH (.mapIter (some m) clock (seen.push e.born) clock)).run C.P w1 = .ok () { w1 with heap := w1.heap.setIfInBounds p.aH (.mapIter (some m) clock (seen.push e.born) clock) } := by
       simp [setObj, Sem.run, e1, k3]
      have aJ := (jb.1 k3).1
      refine ⟨_, _, g, _, _, um, rfl, List.mem_map.2 ⟨_, B7 QB, rfl⟩, Gh.Le.refl g, ?_, ?_⟩
      · refine h.rewrite (St.uy.1 hit) hp ⟨e2, e3, e4, by simp [e1]⟩ (fun k hk _ => by simp only [e1]; exact Array.getElem?_setIfInBounds_ne (Ne.symm hk)) (fun o => ?_) ?_ ?_
        · cases ei : g.bQ p.aH o with
          | none => rfl
          | some u => have := (h.bQ _ _ _ ei).1; simp [World.cell?, k3] at this
        · cases ei : g.bL p.aH with
          | none => rfl
          | some u => have := (h.bL _ _ _ ei).1; rw [k3] at this; cases this
        · refine ⟨m, es, clock, seen.push e.born, by simp [e1, aJ], k4, ⟨l.eraseIdx a, ?_, ?_, ?_⟩, e, ?_, by simp, nY, fE⟩
          · have xM : (es.toList.filter fun e => !seen.contains e.born)[c]? = some e := by rw [Ge]; exact jP
            rw [Fo q2.1 xM, Ge]
            exact Cp k5 ha jP
          · rw [kX, kX]; exact k6.eraseIdx a
          · rw [kX, kX]; exact k7.eraseIdx a
          · exact kF e (fO jP)
      · simp only [az, aE]
        exact ⟨_, rfl, _, _, rfl, rfl, _, _, rfl, nY, _, _, rfl, fE, rfl⟩
     have Dy : ∀ (n : Nat) (w1 : World), (choose (.mapNext L.size)).run C.P w = .ok n w1 -> w1.heap = w.heap -> w1.os = w.os -> w1.tape = w.tape -> w1.output = w.output -> n < L.size ->
      au.Fits C g U (.jz o ((ql (x :: xs)).map fun p => (.aR [.bool true, p.1.1, p.1.2], .iter p.2 (some p.1)))) ((do let x <- Instr.next (.pointer (some ⟨p.aH, 0, none⟩)) false ty; pure (Next.value x) : Sem Next).run C.P w) := fun n w1 hch e1 e2 e3 e4 hn => by
      have Jt : (getObj m).run C.P w = .ok (.map es clock) w := by simp [getObj, Sem.run, q1]
      have UO : L[n]? = some L[n] := by simp [hn]
      generalize L[n] = e at UO
      obtain ⟨u, w', g', v, x', r1, r2, r3, r4, r5, r6⟩ := key w1 n e1 e2 e3 e4 hn e UO
      have Yc : ((#[] : Array (Option MapEntry)) ++ (L ++ #[]).map some).size = L.size := by simp
      have hcn : ((#[] : Array (Option MapEntry)) ++ (L ++ #[]).map some)[n]? = some (some e) := by simp [UO]
      simp only [Instr.next, bN, Js, bX, Jt, Ht, eu, bo, if_false, cj, hL, hold, nz, hem, Yc, hch, hcn, r1]
      exact ⟨_, w', g', v, x', rfl, r3, r4, r5, by rw [<- r2]; exact r6⟩
     by_cases hf : L.size <= 1
     · refine Dy 0 w ?_ rfl rfl rfl rfl (by omega)
       simp [choose, Sem.run, Question.forced, hf]
     · refine Dy (w.tape w.drawn (.mapNext L.size) % L.size) w.drew ?_ rfl rfl rfl rfl (Nat.mod_lt _ (by omega))
       have hfq : Question.forced (.mapNext L.size) = false := by simp only [Question.forced, decide_eq_false_iff_not]; exact hf
       simp only [choose, Sem.run, hfq, bo, if_false, Question.cut]
       rfl
   · trivial
 · trivial
theorem Fk (h : aZ g U w) {i : AV} {v : Value} (hi : az g i v) : au.Fits C g U (mS i U) ((do let x <- Instr.entry v; pure (Next.value x) : Sem Next).run C.P w) := by
 unfold mS
 split
 · rename_i o
   simp only [az] at hi
   obtain ⟨p, hp, rfl⟩ := hi
   split
   · rename_i rest kv hit
     obtain ⟨p', k1, k2, m, es, clock, seen, k3, k4, _, e, k5, k6, k7, k8⟩ := h.live o _ (St.uy.1 hit)
     rw [hp] at k1; cases k1
     obtain ⟨q1, q2⟩ := h.bL m es clock k4
     have Js : (getObj p.aH).run C.P w = .ok (.mapIter (some m) clock seen clock) w := by simp [getObj, Sem.run, k3]
     have Jt : (getObj m).run C.P w = .ok (.map es clock) w := by simp [getObj, Sem.run, q1]
     have Hw : es.find? (fun x => x.born == e.born) = some e := by
      rw [<- Array.find?_toList]
      have hn := q2.1
      generalize es.toList = l at k5 hn
      induction l with
      | nil => simp at k5
      | cons y l ih =>
        simp only [dJ, List.nodup_cons] at hn
        rw [List.find?_cons]
        rcases dS.1 k5 with rfl | hm
        · simp
        · have : (y.born == e.born) = false := by
           simp only [beq_eq_false_iff_ne, ne_eq]
           intro he
           exact hn.1 (he ▸ List.mem_map_of_mem hm)
          rw [this]
          exact ih hm hn.2
     simp only [Instr.entry, bN, Js, bX, k6, Jt, bne_self_eq_false, bo, if_false, eu, cj, Hw]
     exact aU h (by simp only [az, aE]; exact ⟨_, rfl, _, _, rfl, k7, _, _, rfl, k8, rfl⟩)
   · trivial
 · trivial
theorem xF (hG : fU C g) {ρ : Env} {a : Act} (hr : fA g ρ a.tmps) (parts : Array (Nat × Operand)) :
 (parts.map fun (i, x) => (i, a.eval x)).size = (jY C ρ parts).length /\ ∀ (i : Nat) (p : Nat × AV) (q : Nat × Value), (jY C ρ parts)[i]? = some p -> (parts.map fun (i, x) => (i, a.eval x))[i]? = some q -> p.1 = q.1 /\ az g p.2 q.2 := by
 refine ⟨by simp [jY], fun i p q h1 h2 => ?_⟩
 simp only [jY, kN, jc, mO] at h1
 obtain ⟨y, hy, rfl⟩ := h1
 simp only [Array.getElem?_map, hy, Option.map_some, gD] at h2
 subst h2
 exact ⟨rfl, qK hG hr _⟩
theorem GM (hG : fU C g) {ρ : Env} {a : Act} (hr : fA g ρ a.tmps) (x : Option Operand) : match x.map (ρ.ev C), x.map a.eval with | none, none => True | some x, some u => az g x u | _, _ => False := by
 cases x with
 | none => trivial
 | some x => exact qK hG hr x
theorem z8 {P : Program} {w : World} {t u ty e : TypeId} {i : TypeInfo} {z : Value} {k k' : IntKind} (ht : P.underlying t = some (.slice e)) (hu : P.underlying u = some (.int k')) (hi : P.info? e = some i) (hz : i.zero = some z) (zr : i.bytes <= 32768) (hp : 0 < i.size)
 {n : Nat} (h0 : 0 < n) (hn : n <= 65536) :
 (Builtin.append_ #[t, u] ty #[.slice none 0 0, .int k (n : Int)]).run P w =
   .ok (.slice (some ⟨w.heap.size, 0, none⟩) n (grownCap w n 0 e))
    (w.drew.alloc (.cells (Builtin.zeroCells z.cells n ++ Builtin.zeroCells z.cells (grownCap w n 0 e - n)) e)) := by
 have Yv : IntKind.i64.wrap (n : Int) = n := u5 ⟨by omega, by omega⟩
 have Ou : ¬ (9223372036854775807 < (n : Int)) := by omega
 have lQ : n * i.bytes <= 140737488355328 := Nat.le_trans (Nat.mul_le_mul hn zr) (by omega)
 have By := growslice_fits (old := 0) (need := n) (bytes := i.bytes) (by omega) lQ
 have Ot : ¬ (281474976710656 < Builtin.nextslicecap n 0 * i.bytes) := by omega
 have iD : ¬ ((281474976710656 : Int) < (n : Int) * (i.bytes : Int)) := by
  have : (n : Int) * (i.bytes : Int) = ((n * i.bytes : Nat) : Int) := by simp
  omega
 have hns : ¬ (n = 0 \/ i.size = 0) := by omega
 have aaD : ¬ ((n : Int) < 0) := by omega
 simp [Builtin.append_, run_underlying ht, run_underlying hu, sizeOf, typeInfo, zeroValue, hi, hz, Yv, Ou, Ot, iD, hns, aaD, Question.forced, newRow, grownCap, asInt, asIntOf, Builtin.firstCells]
 have e1 : n ≠ 0 := by omega
 have e2 : n * i.size ≠ 0 := Nat.mul_ne_zero e1 (by omega)
 rw [if_neg e1, if_neg e2]
theorem Hq {P : Program} {t u : TypeId} {q : TypeId × Nat × List AV} (h : zm P t u = some q) : ∃ k, P.underlying u = some (.int k) /\ ey P t = some (q.1, q.2.1) /\ ny P q.1 = some q.2.2 := by
 unfold zm at h
 split at h
 · rename_i k hu
   split at h
   · rename_i e sz hs
     split at h
     · rename_i z hz
       cases h
       exact ⟨k, hu, hs, hz⟩
     · cases h
   · cases h
 · cases h
theorem Hp (h : aZ g U w) {t u ty : TypeId} {mu : Bool} {q : TypeId × Nat × List AV} (hq : zm C.P t u = some q) {s y : AV} {v v2 : Value} (hs : az g s v) (hy : az g y v2) :
 au.Fits C g U (w8 q mu s y) ((do let r <- Builtin.append_ #[t, u] ty #[v, v2]; pure (Next.value r) : Sem Next).run C.P w) := by
 obtain ⟨k', hu, mX, hz⟩ := Hq hq
 unfold w8
 split
 · rename_i k n
   rintro ⟨h0, h1⟩
   obtain ⟨i, zv, ht, hi, lT, tl, dD, nA, zr, ZU⟩ := gj mX
   obtain ⟨i', Xf, iu, BL, hm⟩ := kT hz
   rw [hi] at iu; cases iu
   rw [lT] at BL; cases BL
   obtain ⟨h2, h3⟩ := dV (g := g) hm
   simp only [az] at hs hy
   subst hs hy
   obtain ⟨m, rfl⟩ : ∃ m : Nat, n = m := ⟨n.toNat, by omega⟩
   simp only [dR]
   have fJ := grownCap_ge w m 0 q.1
   have hle := grownCap_le_maxLen w m 0 q.1 (by unfold maxLen; omega)
   rw [bN, z8 (k := k) ht hu hi lT zr (by omega) (by omega) (by omega)]
   have dL := h.grow (iU w)
   have we := qu (g := g) h2 m
   have DO : q.2.2.length = i.size := by have := h2.length; simp at this; omega
   have sC := jU h3 m (by omega)
   have Qu := jU h3 (grownCap w m 0 q.1 - m) (by omega)
   have hlen : (Builtin.zeroCells zv.cells m).toList.length + (Builtin.zeroCells zv.cells (grownCap w m 0 q.1 - m)).toList.length = grownCap w m 0 q.1 * q.2.1 := by
    rw [pT, pT, size_zeroCells, size_zeroCells, tl, <- Nat.add_mul, <- dD]
    congr 1; omega
   have ew : Builtin.zeroCells zv.cells m ++ Builtin.zeroCells zv.cells (grownCap w m 0 q.1 - m) = ((Builtin.zeroCells zv.cells m).toList ++ (Builtin.zeroCells zv.cells (grownCap w m 0 q.1 - m)).toList).toArray := by simp
   rw [ew]
   simp only [bX, cj]
   cases mu
   · exact mU dL we sC Qu (by rw [ju, DO, dD]) hlen fJ hle
   · exact oq dL we sC Qu hlen fJ hle
 · trivial
theorem IM (h : aZ g U w) {t ty : TypeId} {x : AV} {v : Value} (hx : az g x v) :
 au.Fits C g U (vJ (ey C.P t) x) ((do let r <- Builtin.cap_ #[t] ty #[v]; pure (Next.value r) : Sem Next).run C.P w) := by
 unfold vJ
 split
 · rename_i q hq
   obtain ⟨e, sz⟩ := q
   obtain ⟨i, z, ht, _⟩ := gj hq
   simp only [az] at hx
   subst hx
   have : (Builtin.cap_ #[t] ty #[.slice none 0 0]).run C.P w = .ok (.int .i64 0) w := by simp [Builtin.cap_, run_underlying ht]; rfl
   rw [bN, this]
   exact aU h (by simp only [az])
 · trivial
theorem CW (h : aZ g U w) {t u ty : TypeId} {mu : Bool} {s y : AV} {v v2 : Value} (hs : az g s v) (hy : az g y v2) :
 au.Fits C g U (wU C.P t u mu s y U) ((do let r <- Builtin.append_ #[t, u] ty #[v, v2]; pure (Next.value r) : Sem Next).run C.P w) := by
 unfold wU
 split
 · rename_i q hq
   exact Hp h hq hs hy
 · exact CV h hs hy
theorem G9 (h : aZ g U w) (hG : fU C g) {ρ : Env} {a : Act} (hr : fA g ρ a.tmps) (mu : Bool) (c : Call) (ty : TypeId) :
 au.Fits C g U (wW C mu c ρ U) ((do let d <- resolve a.eval c ty; invoke d.target d.args : Sem Next).run C.P w) := by
 obtain ⟨callee, ⟨args⟩, ⟨argTypes⟩⟩ := c
 have e := fun x => qK hG hr x
 have fin : au.Fits C g U (match callee, argTypes, args with
  | .value f, _, args => gp C.P (ρ.ev C f) (args.map (ρ.ev C))
  | .builtin .len, [t], [x] => D3 C.P t (ρ.ev C x) U
  | .builtin .append, [t, u], [s, y] => wU C.P t u mu (ρ.ev C s) (ρ.ev C y) U
  | .builtin .cap, [t], [x] => vJ (ey C.P t) (ρ.ev C x)
  | .builtin .min, _, [x, y] => sG (ρ.ev C x) (ρ.ev C y)
  | .builtin .max, _, [x, y] => yC (ρ.ev C x) (ρ.ev C y)
  | .builtin .clear, [t], [x] => vL C.P t (ρ.ev C x) U
  | _, _, _ => .bad) ((do let d <- resolve a.eval ⟨callee, ⟨args⟩, ⟨argTypes⟩⟩ ty; invoke d.target d.args : Sem Next).run C.P w) := by
  split
  · rename_i f
    have := Oi (C := C) h (e f) (wY hG hr args)
    have e2 : (args.map a.eval).toArray = (⟨args⟩ : Array Operand).map a.eval := by simp
    rw [e2] at this
    exact this
  · rename_i t x
    have := JZ (C := C) (ty := ty) h (t := t) (e x)
    simpa only [resolve, invoke, builtin, bN, cj, bX, List.map_toArray, dJ, hC] using this
  · rename_i t u s y
    have := CW (C := C) (ty := ty) (mu := mu) h (t := t) (u := u) (e s) (e y)
    simpa only [resolve, invoke, builtin, bN, cj, bX, List.map_toArray, dJ, hC] using this
  · rename_i t x
    have := IM (C := C) (ty := ty) h (t := t) (e x)
    simpa only [resolve, invoke, builtin, bN, cj, bX, List.map_toArray, dJ, hC] using this
  · rename_i x y
    have := J7 (C := C) (ty := ty) (ts := ⟨argTypes⟩) h (e x) (e y)
    simpa only [resolve, invoke, builtin, bN, cj, bX, List.map_toArray, dJ, hC] using this
  · rename_i x y
    have := J6 (C := C) (ty := ty) (ts := ⟨argTypes⟩) h (e x) (e y)
    simpa only [resolve, invoke, builtin, bN, cj, bX, List.map_toArray, dJ, hC] using this
  · rename_i t x
    have := Fh (C := C) (ty := ty) h (t := t) (e x)
    simpa only [resolve, invoke, builtin, bN, cj, bX, List.map_toArray, dJ, hC] using this
  · trivial
 exact fin
theorem OR (h : aZ g U w) (hG : fU C g) {ρ : Env} {a : Act} (hr : fA g ρ a.tmps) (mu : Bool) (o : Oper) : au.Fits C g U (gY C mu o.op ρ U) ((execOp a.eval o).run C.P w) := by
 have e := fun x => qK hG hr x
 obtain ⟨dst, op, type, pos, after, guard⟩ := o
 unfold gY
 dsimp only
 split
 · exact aU h (e _)
 · exact aU h (e _)
 · rename_i c x y
   unfold aQ
   split
   · rename_i t ht
     have hc := e c
     rw [ht] at hc
     simp only [az] at hc
     simp only [execOp, hc, asBool, bN, cj, bX]
     refine aU h ?_
     cases t
     · exact e _
     · exact e _
   · trivial
 · exact E9 h
 · exact IL h (e _)
 · obtain ⟨h1, h2⟩ := xF hG hr ‹_›
   exact Fe h h1 h2
 · obtain ⟨h1, h2⟩ := xF hG hr ‹_›
   exact yo h h1 h2
 · exact rV h (e _) (e _) (e _)
 · exact rV h (e _) (e _) (e _)
 · exact HS h (e _)
 · exact FT h (e _) (e _)
 · exact AU h rfl (e _)
 · exact IJ h _ _ (e _) (e _)
 · exact PK h (e _)
 · exact Hc h (e _)
 · exact zP h (e _)
 · rename_i fn first cap
   simp only [execOp, Instr.makeFunc, bN, cj, bX]
   refine aU h ?_
   simp only [az]
   exact ⟨first.toList.map a.eval, cap.toList.map a.eval, by congr 1 <;> (apply Array.ext'; simp), wY hG hr _, wY hG hr _⟩
 · simp only [execOp, Instr.makeMap, Option.map_none, bN, cj, bX, run_newObj]
   exact H0 h
 · exact FR h (e _) (GM hG hr _) (GM hG hr _)
 · exact zi h (e _)
 · exact AH h (e _)
 · exact zJ h (e _) (e _)
 · exact Fv h (e _) (e _)
 · exact D5 h (e _) (e _)
 · exact Cj h (e _) _
 · exact FI h (e _)
 · exact FM h (e _)
 · exact yS h (e _)
 · exact zQ h (e _) (e _)
 · exact H2 h (e _)
 · exact Fk h (e _)
 · exact G9 h hG hr mu _ _
 · trivial
end
end Go.Rip
