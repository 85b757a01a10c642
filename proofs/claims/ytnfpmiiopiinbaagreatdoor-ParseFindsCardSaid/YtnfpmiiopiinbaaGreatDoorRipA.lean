/- Lemmas for the proof: no conditions. -/
import Derived.Test.YtnfpmiiopiinbaaGreatDoorRipZz
import Derived.RangeFuncIn
import Derived.Laws.AppendOwn
import Derived.Below
import Derived.Laws.StructEq
import Derived.Lib.ConvBytes
import Derived.RangeFuncLeaves
import Derived.RangeFuncCalls
import Derived.Laws.MakeOwn
set_option linter.unusedVariables false
set_option linter.unusedSimpArgs false
set_option linter.loopingSimpArgs false
namespace Go.Rip
open Go.RowKit
structure Tok where
 n : Nat
 e : TypeId
 size : Nat
 deriving DecidableEq
inductive iV where
 | full
 | own (τ : Nat)
 | iW
inductive AV where
 | bool (b : Bool)
 | int (k : IntKind) (n : Int)
 | str (s : List UInt8)
 | a7
 | al
 | jT
 | cZ
 | cN
 | box (b off : Nat)
 | cj (l : List AV)
 | vec (n : Nat) (cap : iV) (l : List AV)
 | ms (b off n gz : Nat) (e : TypeId)
 | mp (m : Nat)
 | eI (ks vs : List AV)
 | func (fn : Fn) (first captured : List AV)
 | iface (t : TypeId) (v : AV)
 | agg (l : List AV)
 | aQ (l : List AV)
 | pj (o : Nat)
 | it (o : Nat)
 | any
instance : Inhabited AV := ⟨.any⟩
structure Place where
 aH : Nat
 e : TypeId
 size : Nat
structure eY where
 ρ : Nat -> AV
 nt : Nat
 params : Array Tmp
 assign : Code
 body : Code
 state : LoopState
 eJ : Option Code
 tag : Nat
inductive Live where
 | box (l : List AV)
 | tok (t : Tok)
 | mp (ks vs : List AV)
 | loop (L : eY)
 | iter (rest : List (AV × AV)) (cur : Option (AV × AV))
 | xu (t : TypeId) (l : List AV)
structure Gh where
 base : Nat
 w0 : World
 place : Nat -> Option Place
 bM : Nat -> Nat -> Option Value
 bH : Nat -> Option (Array MapEntry × Nat)
 res : Nat -> Bool
def Gh.box (g : Gh) (b : Nat) : Option Place := g.place b
def Gh.tok (g : Gh) (b : Nat) : Option (Nat × Nat) := (g.place b).map fun p => (p.aH, p.size)
def Gh.mp (g : Gh) (b : Nat) : Option Nat := (g.place b).map (·.aH)
theorem Gh.iu {g : Gh} {b : Nat} {x : Nat × Nat} : g.tok b = some x ↔ ∃ p, g.place b = some p /\ p.aH = x.1 /\ p.size = x.2 := by
 unfold Gh.tok
 cases g.place b with
 | none => simp
 | some p => simp [Prod.ext_iff]
theorem Gh.mM {g : Gh} {b : Nat} {x : Nat} : g.mp b = some x ↔ ∃ p, g.place b = some p /\ p.aH = x := by
 unfold Gh.mp
 cases g.place b with
 | none => simp
 | some p => simp
def jf (g : Gh) (aH off : Nat) (vs : List Value) : Prop := ∀ i u, vs[i]? = some u -> g.bM aH (off + i) = some u
def nN (g : Gh) (cap : iV) (aH off n c : Nat) : Prop :=
 match cap with
 | .full => c = n
 | .own τ => off = 0 /\ g.tok τ = some (aH, c)
 | .iW => True
def gD : AV -> AV -> Bool
 | .int k a, .int k' b => decide (k = k') && decide (a < b)
 | .str a, .str b => decide (a < b)
 | _, _ => false
def mD (ks : List AV) : Prop := ks.Pairwise (fun a b => gD a b = true)
def iv (es : Array MapEntry) (clock : Nat) : Prop := (es.toList.map (·.born)).Nodup /\ ∀ e ∈ es.toList, e.born < clock
mutual
def ay (g : Gh) : AV -> Value -> Prop
 | .bool b, v => v = .bool b
 | .int k n, v => v = .int k n
 | .str s, v => v = .string ⟨s.toArray⟩
 | .a7, v => v = .pointer none
 | .al, v => v = .slice none 0 0
 | .jT, v => v = .map none
 | .cZ, v => v = .nilFunc
 | .cN, v => v = .nilIface
 | .box b off, v => ∃ x, g.box b = some x /\ v = .pointer (some ⟨x.aH, off, none⟩)
 | .cj l, v => ∃ aH off vs, v = .pointer (some ⟨aH, off, none⟩) /\ jf g aH off vs /\ aD g l vs
 | .vec n cap l, v => ∃ aH off c vs, v = .slice (some ⟨aH, off, none⟩) n c /\ n <= c /\ c <= maxLen /\ nN g cap aH off n c /\ jf g aH off vs /\ aD g l vs
 | .ms b off n gz e, v => ∃ x c, g.box b = some x /\ v = .slice (some ⟨x.aH, off, none⟩) n c /\ n <= c /\ c <= maxLen /\ off + c * gz = x.size /\ x.e = e
 | .mp m, v => ∃ r, g.mp m = some r /\ v = .map (some r)
 | .eI ks vs, v => ∃ r es clock, ∃ l : List MapEntry, v = .map (some r) /\ g.bH r = some (es, clock) /\ l.Perm es.toList /\ mD ks /\ aD g ks (l.map (·.key)) /\ aD g vs (l.map (·.val))
 | .func fn first captured, v => ∃ fs cs, v = .func fn (List.toArray fs) (List.toArray cs) /\ aD g first fs /\ aD g captured cs
 | .iface t x, v => ∃ u, v = .iface t u /\ ay g x u
 | .agg l, v => ∃ vs, v = .agg (List.toArray vs) /\ (∀ u ∈ vs, u.oneCell' = true) /\ aD g l vs
 | .aQ l, v => ∃ vs, v = .tuple (List.toArray vs) /\ aD g l vs
 | .pj o, v => ∃ x, g.place o = some x /\ v = .func (.yield x.aH) #[] #[]
 | .it o, v => ∃ x, g.place o = some x /\ v = .pointer (some ⟨x.aH, 0, none⟩)
 | .any, _ => True
def aD (g : Gh) : List AV -> List Value -> Prop
 | [], vs => vs = []
 | x :: xs, vs => ∃ u us, vs = u :: us /\ ay g x u /\ aD g xs us
end
structure Gh.Le (g g' : Gh) : Prop where
 base : g'.base = g.base
 w0 : g'.w0 = g.w0
 place : ∀ b x, g.place b = some x -> g'.place b = some x
 bM : ∀ b o x, g.bM b o = some x -> g'.bM b o = some x
 bH : ∀ b x, g.bH b = some x -> g'.bH b = some x
 res : ∀ b, g.res b = true -> g'.res b = true
 vr : ∀ b o, b < g.base -> g'.bM b o = g.bM b o
 sL : ∀ b, b < g.base -> g'.bH b = g.bH b
theorem Gh.Le.refl (g : Gh) : Gh.Le g g := ⟨rfl, rfl, fun _ _ h => h, fun _ _ _ h => h, fun _ _ h => h, fun _ h => h, fun _ _ _ => rfl, fun _ _ => rfl⟩
theorem Gh.Le.trans {a b c : Gh} (h : Gh.Le a b) (k : Gh.Le b c) : Gh.Le a c :=
 ⟨k.base.trans h.base, k.w0.trans h.w0, fun _ _ x => k.place _ _ (h.place _ _ x), fun _ _ _ x => k.bM _ _ _ (h.bM _ _ _ x), fun _ _ x => k.bH _ _ (h.bH _ _ x), fun _ x => k.res _ (h.res _ x),
   fun q o hq => (k.vr q o (by rw [h.base]; exact hq)).trans (h.vr q o hq), fun q hq => (k.sL q (by rw [h.base]; exact hq)).trans (h.sL q hq)⟩
structure Gh.qg (g g' : Gh) : Prop where
 place : ∀ b x, g.place b = some x -> g'.place b = some x
 bM : ∀ b o x, g.bM b o = some x -> g'.bM b o = some x
 bH : ∀ b x, g.bH b = some x -> g'.bH b = some x
theorem Gh.qg.tok {g g' : Gh} (h : Gh.qg g g') {b : Nat} {x : Nat × Nat} (hb : g.tok b = some x) : g'.tok b = some x := by
 obtain ⟨p, h1, h2, h3⟩ := Gh.iu.1 hb
 exact Gh.iu.2 ⟨p, h.place _ _ h1, h2, h3⟩
theorem Gh.qg.mp {g g' : Gh} (h : Gh.qg g g') {b x : Nat} (hb : g.mp b = some x) : g'.mp b = some x := by
 obtain ⟨p, h1, h2⟩ := Gh.mM.1 hb
 exact Gh.mM.2 ⟨p, h.place _ _ h1, h2⟩
theorem Gh.Le.r {g g' : Gh} (h : Gh.Le g g') : Gh.qg g g' := ⟨h.place, h.bM, h.bH⟩
theorem Gh.Le.box {g g' : Gh} (h : Gh.Le g g') (b : Nat) (x : Place) (hb : g.box b = some x) : g'.box b = some x := h.place b x hb
theorem Gh.Le.tok {g g' : Gh} (h : Gh.Le g g') (b : Nat) (x : Nat × Nat) (hb : g.tok b = some x) : g'.tok b = some x := h.r.tok hb
theorem Gh.Le.mp {g g' : Gh} (h : Gh.Le g g') (b : Nat) (x : Nat) (hb : g.mp b = some x) : g'.mp b = some x := h.r.mp hb
theorem jf.dI {g g' : Gh} (h : Gh.qg g g') {aH off : Nat} {vs : List Value} (hi : jf g aH off vs) : jf g' aH off vs := fun i u hu => h.bM _ _ _ (hi i u hu)
theorem nN.dI {g g' : Gh} (h : Gh.qg g g') {cap : iV} {aH off n c : Nat} (hi : nN g cap aH off n c) : nN g' cap aH off n c := by
 cases cap with
 | full => exact hi
 | own τ => exact ⟨hi.1, h.tok hi.2⟩
 | iW => trivial
mutual
theorem ay.dI {g g' : Gh} (h : Gh.qg g g') : ∀ (x : AV) (v : Value), ay g x v -> ay g' x v
 | .bool _, _, hr => hr
 | .int _ _, _, hr => hr
 | .str _, _, hr => hr
 | .a7, _, hr => hr
 | .al, _, hr => hr
 | .jT, _, hr => hr
 | .cZ, _, hr => hr
 | .cN, _, hr => hr
 | .box _ _, _, hr => by
   simp only [ay] at hr ⊢
   obtain ⟨x, hx, hv⟩ := hr
   exact ⟨x, h.place _ _ hx, hv⟩
 | .cj l, _, hr => by
   simp only [ay] at hr ⊢
   obtain ⟨aH, off, vs, hv, hi, hl⟩ := hr
   exact ⟨aH, off, vs, hv, hi.dI h, aD.dI h l vs hl⟩
 | .vec n cap l, _, hr => by
   simp only [ay] at hr ⊢
   obtain ⟨aH, off, c, vs, hv, h1, h2, hc, hi, hl⟩ := hr
   exact ⟨aH, off, c, vs, hv, h1, h2, hc.dI h, hi.dI h, aD.dI h l vs hl⟩
 | .ms _ _ _ _ _, _, hr => by
   simp only [ay] at hr ⊢
   obtain ⟨x, c, hx, r⟩ := hr
   exact ⟨x, c, h.place _ _ hx, r⟩
 | .mp _, _, hr => by
   simp only [ay] at hr ⊢
   obtain ⟨x, hx, hv⟩ := hr
   exact ⟨x, h.mp hx, hv⟩
 | .eI ks vs, _, hr => by
   simp only [ay] at hr ⊢
   obtain ⟨r, es, c, l, hv, he, hp, hs, h1, h2⟩ := hr
   exact ⟨r, es, c, l, hv, h.bH _ _ he, hp, hs, aD.dI h ks _ h1, aD.dI h vs _ h2⟩
 | .func fn first captured, _, hr => by
   simp only [ay] at hr ⊢
   obtain ⟨fs, cs, hv, h1, h2⟩ := hr
   exact ⟨fs, cs, hv, aD.dI h first _ h1, aD.dI h captured _ h2⟩
 | .iface t x, _, hr => by
   simp only [ay] at hr ⊢
   obtain ⟨u, hv, h1⟩ := hr
   exact ⟨u, hv, ay.dI h x _ h1⟩
 | .agg l, _, hr => by
   simp only [ay] at hr ⊢
   obtain ⟨vs, hv, h0, h1⟩ := hr
   exact ⟨vs, hv, h0, aD.dI h l _ h1⟩
 | .aQ l, _, hr => by
   simp only [ay] at hr ⊢
   obtain ⟨vs, hv, h1⟩ := hr
   exact ⟨vs, hv, aD.dI h l _ h1⟩
 | .pj o, _, hr => by
   simp only [ay] at hr ⊢
   obtain ⟨x, hx, hv⟩ := hr
   exact ⟨x, h.place _ _ hx, hv⟩
 | .it o, _, hr => by
   simp only [ay] at hr ⊢
   obtain ⟨x, hx, hv⟩ := hr
   exact ⟨x, h.place _ _ hx, hv⟩
 | .any, _, _ => by simp only [ay]
theorem aD.dI {g g' : Gh} (h : Gh.qg g g') : ∀ (l : List AV) (vs : List Value), aD g l vs -> aD g' l vs
 | [], _, hr => by simpa only [aD] using hr
 | x :: xs, _, hr => by
   simp only [aD] at hr ⊢
   obtain ⟨u, us, hv, h1, h2⟩ := hr
   exact ⟨u, us, hv, ay.dI h x _ h1, aD.dI h xs _ h2⟩
end
theorem jf.mono {g g' : Gh} (h : Gh.Le g g') {aH off : Nat} {vs : List Value} (hi : jf g aH off vs) : jf g' aH off vs := hi.dI h.r
theorem nN.mono {g g' : Gh} (h : Gh.Le g g') {cap : iV} {aH off n c : Nat} (hi : nN g cap aH off n c) : nN g' cap aH off n c := hi.dI h.r
theorem ay.mono {g g' : Gh} (h : Gh.Le g g') (x : AV) (v : Value) (hr : ay g x v) : ay g' x v := ay.dI h.r x v hr
theorem aD.mono {g g' : Gh} (h : Gh.Le g g') (l : List AV) (vs : List Value) (hr : aD g l vs) : aD g' l vs := aD.dI h.r l vs hr
theorem aD.length {g : Gh} : ∀ {l : List AV} {vs : List Value}, aD g l vs -> vs.length = l.length
 | [], _, h => by simp only [aD] at h; simp [h]
 | _ :: xs, _, h => by
   simp only [aD] at h
   obtain ⟨u, us, rfl, _, h2⟩ := h
   simp [aD.length h2]
theorem aD.append {g : Gh} : ∀ {l l' : List AV} {vs vs' : List Value}, aD g l vs -> aD g l' vs' -> aD g (l ++ l') (vs ++ vs')
 | [], _, _, _, h, h' => by simp only [aD] at h; subst h; simpa using h'
 | _ :: xs, _, _, _, h, h' => by
   simp only [aD, jV] at h ⊢
   obtain ⟨u, us, rfl, h1, h2⟩ := h
   exact ⟨u, us ++ _, rfl, h1, aD.append h2 h'⟩
theorem aD.get {g : Gh} : ∀ {l : List AV} {vs : List Value} {i : Nat} {x : AV}, aD g l vs -> l[i]? = some x -> ∃ v, vs[i]? = some v /\ ay g x v
 | [], _, _, _, _, hx => by simp at hx
 | y :: xs, _, 0, x, h, hx => by
   simp only [aD] at h
   obtain ⟨u, us, rfl, h1, h2⟩ := h
   simp at hx; subst hx; exact ⟨u, rfl, h1⟩
 | y :: xs, _, i + 1, x, h, hx => by
   simp only [aD] at h
   obtain ⟨u, us, rfl, h1, h2⟩ := h
   simp at hx
   obtain ⟨v, hv, hr⟩ := aD.get h2 hx
   exact ⟨v, by simpa using hv, hr⟩
theorem aD.drop {g : Gh} : ∀ {l : List AV} {vs : List Value} (n : Nat), aD g l vs -> aD g (l.drop n) (vs.drop n)
 | _, _, 0, h => by simpa using h
 | [], _, n + 1, h => by simp only [aD] at h; subst h; simp [aD]
 | _ :: xs, _, n + 1, h => by
   simp only [aD] at h
   obtain ⟨u, us, rfl, h1, h2⟩ := h
   simpa using aD.drop n h2
theorem aD.take {g : Gh} : ∀ {l : List AV} {vs : List Value} (n : Nat), aD g l vs -> aD g (l.take n) (vs.take n)
 | _, _, 0, _ => by simp [aD]
 | [], _, n + 1, h => by simp only [aD] at h; subst h; simp [aD]
 | _ :: xs, _, n + 1, h => by
   simp only [aD] at h
   obtain ⟨u, us, rfl, h1, h2⟩ := h
   simp only [List.take_succ_cons, aD]
   exact ⟨u, _, rfl, h1, aD.take n h2⟩
theorem aD.y7 {g : Gh} : ∀ {l : List AV} {vs : List Value}, vs.length = l.length -> (∀ (i : Nat) (x : AV) (v : Value), l[i]? = some x -> vs[i]? = some v -> ay g x v) -> aD g l vs
 | [], vs, hl, _ => by simp only [aD]; simpa using hl
 | x :: xs, [], hl, _ => by simp at hl
 | x :: xs, v :: vs, hl, h => by
   simp only [aD]
   exact ⟨v, vs, rfl, h 0 x v rfl rfl, aD.y7 (by simpa using hl) fun i x v hx hv => h (i + 1) x v (by simpa using hx) (by simpa using hv)⟩
def th (g : Gh) (ks vs : List AV) (es : Array MapEntry) : Prop := ∃ l : List MapEntry, l.Perm es.toList /\ mD ks /\ aD g ks (l.map (·.key)) /\ aD g vs (l.map (·.val))
def yf (g : Gh) (es : Array MapEntry) (seen : Array Nat) (rest : List (AV × AV)) (cur : Option (AV × AV)) : Prop :=
 (∃ l : List MapEntry, l.Perm (es.toList.filter fun e => !seen.contains e.born) /\ aD g (rest.map (·.1)) (l.map (·.key)) /\ aD g (rest.map (·.2)) (l.map (·.val))) /\
 (match cur with
  | none => True
  | some (k, v) => ∃ e ∈ es.toList, seen.back? = some e.born /\ ay g k e.key /\ ay g v e.val)
def jg (g : Gh) (w : World) (p : Place) : Live -> Prop
 | .box l => ∃ cur vs rest, w.heap[p.aH]? = some (.cells cur p.e (0, 0)) /\ cur.size = p.size /\ cur.toList = vs ++ rest /\ aD g l vs /\ (∀ u ∈ cur.toList, u.oneCell' = true) /\ (∀ o, g.bM p.aH o = none)
 | .tok t => ∃ cur, w.heap[p.aH]? = some (.cells cur t.e (0, 0)) /\ cur.size = p.size * t.size /\ t.n <= p.size /\ p.size <= maxLen /\ (∀ o, t.n * t.size <= o -> g.bM p.aH o = none)
 | .mp ks vs => ∃ es clock, w.heap[p.aH]? = some (.map es clock) /\ iv es clock /\ th g ks vs es /\ g.bH p.aH = none
 | .loop L => ∃ fn tmps defers, w.heap[p.aH]? = some (.loop { state := L.state, pending := L.eJ, fn, tmps, params := L.params, assign := L.assign, body := L.body, defers }) /\ tmps.size = L.nt /\ ∀ t, ay g (L.ρ t) (tmps.getD t undef)
 | .iter rest cur => ∃ m es clock seen, w.heap[p.aH]? = some (.mapIter (some m) clock seen clock) /\ g.bH m = some (es, clock) /\ yf g es seen rest cur
 | .xu t l => p.e = t /\ p.size = l.length /\ ∃ cur vs rest, w.heap[p.aH]? = some (.cells cur p.e (0, 0)) /\ cur.size = p.size /\ cur.toList = vs ++ rest /\ aD g l vs /\ (∀ u ∈ cur.toList, u.oneCell' = true) /\ (∀ o, g.bM p.aH o = none)
structure St where
 live : Nat -> Option Live
 nb : Option Nat
def St.box (U : St) (b : Nat) : Option (List AV) := match U.live b with | some (.box l) => some l | some (.xu _ l) => some l | _ => none
def St.tok (U : St) (b : Nat) : Option Tok := match U.live b with | some (.tok t) => some t | _ => none
def St.mp (U : St) (b : Nat) : Option (List AV × List AV) := match U.live b with | some (.mp ks vs) => some (ks, vs) | _ => none
def St.loop (U : St) (b : Nat) : Option eY := match U.live b with | some (.loop L) => some L | _ => none
def St.iter (U : St) (b : Nat) : Option (List (AV × AV) × Option (AV × AV)) := match U.live b with | some (.iter r c) => some (r, c) | _ => none
theorem St.qj {U : St} {b : Nat} {l : List AV} (h : U.box b = some l) : ∃ x, U.live b = some x /\ ∀ g w p, jg g w p x -> jg g w p (.box l) := by
 unfold St.box at h
 split at h
 · rename_i l' hl; cases h; exact ⟨_, hl, fun _ _ _ h => h⟩
 · rename_i t l' hl; cases h; exact ⟨_, hl, fun _ _ _ h => h.2.2⟩
 · cases h
theorem St.iu {U : St} {b : Nat} {l : Tok} : U.tok b = some l ↔ U.live b = some (.tok l) := by unfold St.tok; split <;> simp_all
theorem St.mM {U : St} {b : Nat} {l : List AV × List AV} : U.mp b = some l ↔ U.live b = some (.mp l.1 l.2) := by unfold St.mp; split <;> simp_all [Prod.ext_iff]
theorem St.ko {U : St} {b : Nat} {l : eY} : U.loop b = some l ↔ U.live b = some (.loop l) := by unfold St.loop; split <;> simp_all
theorem St.tK {U : St} {b : Nat} {l : List (AV × AV) × Option (AV × AV)} : U.iter b = some l ↔ U.live b = some (.iter l.1 l.2) := by unfold St.iter; split <;> simp_all [Prod.ext_iff]
def St.set (U : St) (b : Nat) (x : Live) : St := { U with live := fun y => if y = b then some x else U.live y }
def St.del (U : St) (b : Nat) : St := { U with live := fun y => if y = b then none else U.live y }
def St.new (U : St) (b : Nat) (x : Live) : St := { live := fun y => if y = b then some x else U.live y, nb := U.nb.map (· + 1) }
def St.cQ (U : St) (b : Nat) : Prop := U.live b = none /\ ∀ n, U.nb = some n -> b = n
structure aY (g : Gh) (U : St) (w : World) : Prop where
 below : Below g.base g.w0 w
 le : g.base <= w.heap.size
 bM : ∀ aH o u, g.bM aH o = some u -> w.cell? ⟨aH, o, none⟩ = some u /\ u.oneCell' = true
 bH : ∀ r es c, g.bH r = some (es, c) -> w.heap[r]? = some (.map es c) /\ iv es c
 live : ∀ b x, U.live b = some x -> ∃ p, g.place b = some p /\ g.base <= p.aH /\ jg g w p x
 apart : ∀ b b' x x' p p', U.live b = some x -> U.live b' = some x' -> g.place b = some p -> g.place b' = some p' -> p.aH = p'.aH -> b = b'
 res : ∀ r, g.res r = true -> g.base <= r /\ w.heap[r]? = some (.deferred (some []))
 fin : ∃ N, (∀ n, U.nb = some n -> N = n) /\ ∀ b, N <= b -> g.place b = none
end Go.Rip
namespace Go.Rip
open Go.RowKit
structure St.Le (U ae : St) : Prop where
 live : ∀ b x, U.live b = some x -> ae.live b = some x
 nb : ∀ n, U.nb = some n -> ae.nb = some n
theorem St.Le.refl (U : St) : St.Le U U := ⟨fun _ _ h => h, fun _ h => h⟩
theorem St.Le.trans {a b c : St} (h : St.Le a b) (k : St.Le b c) : St.Le a c := ⟨fun _ _ x => k.live _ _ (h.live _ _ x), fun _ x => k.nb _ (h.nb _ x)⟩
theorem St.ql (U : St) (b : Nat) : St.Le (U.del b) U := ⟨fun x y hx => by simp only [St.del] at hx; split at hx <;> simp_all, fun _ h => h⟩
theorem aY.weaken {g : Gh} {U ae : St} {w : World} (h : aY g ae w) (hl : St.Le U ae) : aY g U w where
 below := h.below
 le := h.le
 bM := h.bM
 bH := h.bH
 live := fun b l hb => h.live b l (hl.live _ _ hb)
 apart := fun b b' l l' x x' h1 h2 => h.apart b b' l l' x x' (hl.live _ _ h1) (hl.live _ _ h2)
 res := h.res
 fin := let ⟨N, h1, h2⟩ := h.fin; ⟨N, fun n hn => h1 n (hl.nb n hn), h2⟩
theorem BG {w w' : World} {k : Nat} (h : w'.heap[k]? = w.heap[k]?) (o : Nat) : w'.cell? ⟨k, o, none⟩ = w.cell? ⟨k, o, none⟩ := by simp [World.cell?, h]
theorem aY.Ja {g : Gh} {U : St} {w : World} (h : aY g U w) {aH o : Nat} {u : Value} (hi : g.bM aH o = some u) : aH < w.heap.size :=
 World.block_lt_of_cell? w ⟨aH, o, none⟩ (h.bM _ _ _ hi).1
theorem aY.FP {g : Gh} {U : St} {w : World} (h : aY g U w) {r : Nat} {x : Array MapEntry × Nat} (hi : g.bH r = some x) : r < w.heap.size :=
 (iE.1 (h.bH r x.1 x.2 hi).1).1
theorem aY.wo {g : Gh} {U : St} {w : World} (h : aY g U w) {q : Nat} (hq : w.heap.size <= q) (o : Nat) : g.bM q o = none := by
 cases e : g.bM q o with
 | none => rfl
 | some u => have := h.Ja e; omega
theorem aY.tE {g : Gh} {U : St} {w : World} (h : aY g U w) {q : Nat} (hq : w.heap.size <= q) : g.bH q = none := by
 cases e : g.bH q with
 | none => rfl
 | some u => have := h.FP e; omega
theorem th.dI {g g' : Gh} (h : Gh.qg g g') {ks vs : List AV} {es : Array MapEntry} (hm : th g ks vs es) : th g' ks vs es :=
 let ⟨l, h1, h2, h3, h4⟩ := hm; ⟨l, h1, h2, h3.dI h, h4.dI h⟩
theorem yf.dI {g g' : Gh} (h : Gh.qg g g') {es : Array MapEntry} {seen : Array Nat} {rest : List (AV × AV)} {cur : Option (AV × AV)} (hm : yf g es seen rest cur) : yf g' es seen rest cur := by
 obtain ⟨⟨l, h1, h2, h3⟩, h4⟩ := hm
 refine ⟨⟨l, h1, h2.dI h, h3.dI h⟩, ?_⟩
 cases cur with
 | none => trivial
 | some kv => obtain ⟨e, k1, k2, k3, k4⟩ := h4; exact ⟨e, k1, k2, k3.dI h, k4.dI h⟩
theorem jg.frame {g g' : Gh} {w w' : World} {p : Place} {x : Live} (h : jg g w p x) (hl : Gh.qg g g') (hb : w'.heap[p.aH]? = w.heap[p.aH]?) (hi : ∀ o, g'.bM p.aH o = g.bM p.aH o) (hm : g'.bH p.aH = g.bH p.aH) : jg g' w' p x := by
 cases x with
 | box l => obtain ⟨cur, vs, rest, h1, h2, h3, h4, h5, h6⟩ := h; exact ⟨cur, vs, rest, hb.trans h1, h2, h3, h4.dI hl, h5, fun o => (hi o).trans (h6 o)⟩
 | tok t => obtain ⟨cur, h1, h2, h3, h4, h5⟩ := h; exact ⟨cur, hb.trans h1, h2, h3, h4, fun o ho => (hi o).trans (h5 o ho)⟩
 | mp ks vs => obtain ⟨es, clock, h1, h2, h3, h4⟩ := h; exact ⟨es, clock, hb.trans h1, h2, h3.dI hl, hm.trans h4⟩
 | loop L => obtain ⟨fn, tmps, defers, h1, h2, h3⟩ := h; exact ⟨fn, tmps, defers, hb.trans h1, h2, fun t => (h3 t).dI hl⟩
 | iter rest cur => obtain ⟨m, es, clock, seen, h1, h2, h3⟩ := h; exact ⟨m, es, clock, seen, hb.trans h1, hl.bH _ _ h2, h3.dI hl⟩
 | xu t l => obtain ⟨e1, e2, cur, vs, rest, h1, h2, h3, h4, h5, h6⟩ := h; exact ⟨e1, e2, cur, vs, rest, hb.trans h1, h2, h3, h4.dI hl, h5, fun o => (hi o).trans (h6 o)⟩
theorem jg.lt {g : Gh} {w : World} {p : Place} {x : Live} (h : jg g w p x) : p.aH < w.heap.size := by
 have : ∃ o, w.heap[p.aH]? = some o := by
  cases x with
  | box l => obtain ⟨cur, vs, rest, h1, _⟩ := h; exact ⟨_, h1⟩
  | tok t => obtain ⟨cur, h1, _⟩ := h; exact ⟨_, h1⟩
  | mp ks vs => obtain ⟨es, clock, h1, _⟩ := h; exact ⟨_, h1⟩
  | loop L => obtain ⟨fn, tmps, defers, h1, _⟩ := h; exact ⟨_, h1⟩
  | iter rest cur => obtain ⟨m, es, clock, seen, h1, _⟩ := h; exact ⟨_, h1⟩
  | xu t l => obtain ⟨_, _, cur, vs, rest, h1, _⟩ := h; exact ⟨_, h1⟩
 exact (iE.1 this.choose_spec).1
theorem jg.F0 {g : Gh} {w : World} {p : Place} {x : Live} (h : jg g w p x) {r : Nat} {ds : Option (List Deferred)} (hr : w.heap[r]? = some (.deferred ds)) : p.aH ≠ r := by
 intro e
 subst e
 cases x with
 | box l => obtain ⟨cur, vs, rest, h1, _⟩ := h; rw [hr] at h1; cases h1
 | tok t => obtain ⟨cur, h1, _⟩ := h; rw [hr] at h1; cases h1
 | mp ks vs => obtain ⟨es, clock, h1, _⟩ := h; rw [hr] at h1; cases h1
 | loop L => obtain ⟨fn, tmps, defers, h1, _⟩ := h; rw [hr] at h1; cases h1
 | iter rest cur => obtain ⟨m, es, clock, seen, h1, _⟩ := h; rw [hr] at h1; cases h1
 | xu t l => obtain ⟨_, _, cur, vs, rest, h1, _⟩ := h; rw [hr] at h1; cases h1
theorem aY.change {g g' : Gh} {U : St} {w w' : World} (h : aY g U w) (B : Nat) (hB : g.base <= B) (hle : Gh.Le g g') (pC : g'.place = g.place) (hres : g'.res = g.res)
 (hw : w'.os = w.os /\ w'.tape = w.tape /\ w'.output = w.output /\ w.heap.size <= w'.heap.size) (hk : ∀ k, k ≠ B -> k < w.heap.size -> w'.heap[k]? = w.heap[k]?)
 (k9 : ∀ q o, q ≠ B -> g'.bM q o = g.bM q o) (PL : ∀ q, q ≠ B -> g'.bH q = g.bH q)
 (hi : ∀ o u, g'.bM B o = some u -> w'.cell? ⟨B, o, none⟩ = some u /\ u.oneCell' = true) (hm : ∀ es c, g'.bH B = some (es, c) -> w'.heap[B]? = some (.map es c) /\ iv es c)
 (eV : ∀ b x p, U.live b = some x -> g.place b = some p -> p.aH ≠ B) (XV : g.res B = false) : aY g' U w' := by
 have aJ : ∀ k o, w.heap[k]? = some o -> k ≠ B -> w'.heap[k]? = some o := fun k o YZ hn => by rw [hk k hn (iE.1 YZ).1]; exact YZ
 exact {
  below := by
   rw [hle.base, hle.w0]
   exact h.below.trans ⟨hw.1, hw.2.1, hw.2.2.1, hw.2.2.2, fun k YY => hk k (by omega) (by have := h.le; omega)⟩
  le := by rw [hle.base]; exact Nat.le_trans h.le hw.2.2.2
  bM := fun q o u hu => by
   by_cases hq : q = B
   · subst hq; exact hi o u hu
   · rw [k9 q o hq] at hu
     rw [BG (hk q hq (h.Ja hu))]; exact h.bM _ _ _ hu
  bH := fun r es c hr => by
   by_cases hq : r = B
   · subst hq; exact hm es c hr
   · rw [PL r hq] at hr
     rw [hk r hq (h.FP hr)]; exact h.bH _ _ _ hr
  live := fun b x hb => by
   obtain ⟨p, h1, h2, h3⟩ := h.live b x hb
   have FI := eV b x p hb h1
   refine ⟨p, by rw [pC]; exact h1, by rw [hle.base]; exact h2, h3.frame hle.r (hk _ FI h3.lt) (fun o => k9 _ _ FI) (PL _ FI)⟩
  apart := fun b b' x x' p p' h1 h2 h3 h4 h5 => by rw [pC] at h3 h4; exact h.apart b b' x x' p p' h1 h2 h3 h4 h5
  res := fun r hr => by
   rw [hres] at hr
   obtain ⟨h1, h2⟩ := h.res r hr
   rw [hle.base]
   exact ⟨h1, aJ _ _ h2 (fun e => by subst e; rw [XV] at hr; cases hr)⟩
  fin := by rw [pC]; exact h.fin }
theorem aY.named {g : Gh} {U : St} {w : World} (h : aY g U w) {b : Nat} {p : Place} {x : Live} (hb : g.place b = some p) (hB : g.base <= p.aH) (hx : jg g w p x)
 (eV : ∀ b' x' p', b' ≠ b -> U.live b' = some x' -> g.place b' = some p' -> p'.aH ≠ p.aH) : aY g (U.set b x) w where
 below := h.below
 le := h.le
 bM := h.bM
 bH := h.bH
 live := fun b' x' dQ => by
  simp only [St.set] at dQ
  split at dQ
  · rename_i e; subst e; cases dQ; exact ⟨p, hb, hB, hx⟩
  · exact h.live b' x' dQ
 apart := fun b1 b2 x1 x2 p1 p2 h1 h2 h3 h4 h5 => by
  simp only [St.set] at h1 h2
  by_cases e1 : b1 = b <;> by_cases e2 : b2 = b
  · rw [e1, e2]
  · rw [if_neg e2] at h2
    subst e1; rw [hb] at h3; cases h3
    exact absurd h5.symm (eV _ _ _ e2 h2 h4)
  · rw [if_neg e1] at h1
    subst e2; rw [hb] at h4; cases h4
    exact absurd h5 (eV _ _ _ e1 h1 h3)
  · rw [if_neg e1] at h1; rw [if_neg e2] at h2
    exact h.apart _ _ _ _ _ _ h1 h2 h3 h4 h5
 res := h.res
 fin := h.fin
def Gh.lC (g : Gh) (b : Nat) (p : Place) : Gh := { g with place := fun y => if y = b then some p else g.place y }
theorem Gh.gY (g : Gh) (b : Nat) (p : Place) : (g.lC b p).place b = some p := by simp [Gh.lC]
theorem Gh.kS (g : Gh) {b y : Nat} (p : Place) (h : y ≠ b) : (g.lC b p).place y = g.place y := by simp [Gh.lC, h]
theorem Gh.xj {g : Gh} {b : Nat} (p : Place) (h : g.place b = none) : Gh.Le g (g.lC b p) :=
 ⟨rfl, rfl, fun y x hy => by rw [Gh.kS _ _ (fun e => by subst e; rw [h] at hy; cases hy)]; exact hy, fun _ _ _ h => h, fun _ _ h => h, fun _ h => h, fun _ _ _ => rfl, fun _ _ => rfl⟩
theorem aY.newName {g : Gh} {U : St} {w : World} (h : aY g U w) (p : Place) (hB : g.base <= p.aH) (eV : ∀ b' x' p', U.live b' = some x' -> g.place b' = some p' -> p'.aH ≠ p.aH) :
 ∃ b, U.cQ b /\ Gh.Le g (g.lC b p) /\ ∀ x, jg (g.lC b p) w p x -> aY (g.lC b p) (U.new b x) w := by
 obtain ⟨N, YJ, YK⟩ := h.fin
 have AZ : g.place N = none := YK N (df _)
 have Y4 : U.live N = none := by
  cases e : U.live N with
  | none => rfl
  | some x => obtain ⟨p, h1, _⟩ := h.live N x e; rw [AZ] at h1; cases h1
 refine ⟨N, ⟨Y4, YJ⟩, Gh.xj p AZ, fun x hx => ?_⟩
 have hle := Gh.xj (g := g) p AZ
 have bQ : ∀ b x, U.live b = some x -> b ≠ N := fun b x hb e => by subst e; rw [Y4] at hb; cases hb
 exact {
  below := h.below
  le := h.le
  bM := h.bM
  bH := h.bH
  live := fun b' x' dQ => by
   simp only [St.new] at dQ
   split at dQ
   · rename_i e; subst e; cases dQ; exact ⟨p, Gh.gY _ _ _, hB, hx⟩
   · obtain ⟨p', h1, h2, h3⟩ := h.live b' x' dQ
     exact ⟨p', hle.place _ _ h1, h2, h3.frame hle.r rfl (fun _ => rfl) rfl⟩
  apart := fun b1 b2 x1 x2 p1 p2 h1 h2 h3 h4 h5 => by
   simp only [St.new] at h1 h2
   by_cases e1 : b1 = N <;> by_cases e2 : b2 = N
   · rw [e1, e2]
   · rw [if_neg e2] at h2; rw [Gh.kS _ _ e2] at h4
     subst e1; rw [Gh.gY] at h3; cases h3
     exact absurd h5.symm (eV _ _ _ h2 h4)
   · rw [if_neg e1] at h1; rw [Gh.kS _ _ e1] at h3
     subst e2; rw [Gh.gY] at h4; cases h4
     exact absurd h5 (eV _ _ _ h1 h3)
   · rw [if_neg e1] at h1; rw [if_neg e2] at h2
     rw [Gh.kS _ _ e1] at h3; rw [Gh.kS _ _ e2] at h4
     exact h.apart _ _ _ _ _ _ h1 h2 h3 h4 h5
  res := h.res
  fin := ⟨N + 1, fun n hn => by
   simp only [St.new, mA] at hn
   obtain ⟨m, hm, rfl⟩ := hn
   rw [YJ m hm], fun b hb => by rw [Gh.kS _ _ (by omega)]; exact YK b (by omega)⟩ }
theorem aY.grow {g : Gh} {U : St} {w w' : World} (h : aY g U w) (hg : w.grownBy w' none) : aY g U w' := by
 have hb : ∀ k, k < w.heap.size -> w'.heap[k]? = w.heap[k]? := fun k hk => hg.block k hk (by simp)
 refine h.change w.heap.size h.le (Gh.Le.refl g) rfl rfl ⟨hg.os, hg.tape, hg.output, hg.size⟩ (fun k _ hk => hb k hk) (fun _ _ _ => rfl) (fun _ _ => rfl) (fun o u hu => ?_) (fun es c hr => ?_) (fun b x p h1 h2 => ?_) ?_
 · rw [h.wo (df _)] at hu; cases hu
 · rw [h.tE (df _)] at hr; cases hr
 · obtain ⟨p', k1, _, k3⟩ := h.live b x h1
   rw [h2] at k1; cases k1
   exact Nat.ne_of_lt k3.lt
 · cases e : g.res w.heap.size with
   | false => rfl
   | true => have := (iE.1 (h.res _ e).2).1; omega
theorem iw (w : World) : w.grownBy w.drew none := ⟨rfl, rfl, rfl, df _, fun _ _ _ => rfl⟩
theorem aY.Ag {g : Gh} {U : St} {w : World} (h : aY g U w) {q : Nat} (hq : w.heap.size <= q) : g.res q = false := by
 cases e : g.res q with
 | false => rfl
 | true => have := (iE.1 (h.res _ e).2).1; omega
theorem aY.tU {g : Gh} {U : St} {w : World} (h : aY g U w) {b : Nat} {x : Live} {p : Place} (hb : U.live b = some x) (hp : g.place b = some p) : p.aH < w.heap.size := by
 obtain ⟨p', k1, _, k3⟩ := h.live b x hb
 rw [hp] at k1; cases k1
 exact k3.lt
theorem aY.qP {g : Gh} {U : St} {w : World} (h : aY g U w) {b : Nat} {x : Live} {p : Place} (hb : U.live b = some x) (hp : g.place b = some p) : g.res p.aH = false := by
 cases e : g.res p.aH with
 | false => rfl
 | true =>
   obtain ⟨p', k1, _, k3⟩ := h.live b x hb
   rw [hp] at k1; cases k1
   exact absurd rfl (k3.F0 (h.res _ e).2)
theorem aY.qF {g : Gh} {U : St} {w : World} (h : aY g U w) (o : Obj) (e : TypeId) (size : Nat) (x : Live)
 (hx : ∀ g', Gh.Le g g' -> (∀ o, g'.bM w.heap.size o = none) -> g'.bH w.heap.size = none -> jg g' (w.alloc o) ⟨w.heap.size, e, size⟩ x) :
 ∃ b g', U.cQ b /\ Gh.Le g g' /\ g'.place b = some ⟨w.heap.size, e, size⟩ /\ aY g' (U.new b x) (w.alloc o) := by
 have hs := h.grow (w.grownBy_alloc o none)
 obtain ⟨b, h1, h2, h3⟩ := hs.newName ⟨w.heap.size, e, size⟩ h.le (fun b' x' p' k1 k2 => Nat.ne_of_lt (h.tU k1 k2))
 exact ⟨b, _, h1, h2, Gh.gY _ _ _, h3 x (hx _ h2 (fun o => h.wo (df _) o) (h.tE (df _)))⟩
end Go.Rip
namespace Go.Rip
open Go.RowKit
def St.bT (U : St) (b : Nat) (l : List AV) : St := U.set b (.box l)
def St.Yk (U : St) (b : Nat) (kv : List AV × List AV) : St := U.set b (.mp kv.1 kv.2)
theorem aY.box {g : Gh} {U : St} {w : World} (h : aY g U w) (b : Nat) (l : List AV) (hb : U.box b = some l) : ∃ x cur vs rest, g.box b = some x /\ g.base <= x.aH /\ w.heap[x.aH]? = some (.cells cur x.e (0, 0)) /\ cur.size = x.size /\ cur.toList = vs ++ rest /\ aD g l vs /\
 (∀ u ∈ cur.toList, u.oneCell' = true) /\ (∀ o, g.bM x.aH o = none) := by
 obtain ⟨y, hy, Vf⟩ := St.qj hb
 obtain ⟨p, h1, h2, hp⟩ := h.live b _ hy
 obtain ⟨cur, vs, rest, h3, h4, h5, h6, h7, h8⟩ := Vf _ _ _ hp
 exact ⟨p, cur, vs, rest, h1, h2, h3, h4, h5, h6, h7, h8⟩
theorem aY.tok {g : Gh} {U : St} {w : World} (h : aY g U w) (τ : Nat) (t : Tok) (ht : U.tok τ = some t) : ∃ aH c cur, g.tok τ = some (aH, c) /\ g.base <= aH /\ w.heap[aH]? = some (.cells cur t.e (0, 0)) /\ cur.size = c * t.size /\ t.n <= c /\ c <= maxLen /\
 (∀ o, t.n * t.size <= o -> g.bM aH o = none) := by
 obtain ⟨p, h1, h2, cur, h3, h4, h5, h6, h7⟩ := h.live τ _ (St.iu.1 ht)
 exact ⟨p.aH, p.size, cur, Gh.iu.2 ⟨p, h1, rfl, rfl⟩, h2, h3, h4, h5, h6, h7⟩
theorem aY.mp {g : Gh} {U : St} {w : World} (h : aY g U w) (m : Nat) (kv : List AV × List AV) (hm : U.mp m = some kv) : ∃ r es clock, g.mp m = some r /\ g.base <= r /\ w.heap[r]? = some (.map es clock) /\ iv es clock /\ th g kv.1 kv.2 es /\ g.bH r = none := by
 obtain ⟨p, h1, h2, es, clock, h3, h4, h5, h6⟩ := h.live m _ (St.mM.1 hm)
 exact ⟨p.aH, es, clock, Gh.mM.2 ⟨p, h1, rfl⟩, h2, h3, h4, h5, h6⟩
theorem aY.rewrite {g : Gh} {U : St} {w w' : World} (h : aY g U w) {b : Nat} {x x' : Live} {p : Place} (hb : U.live b = some x) (hp : g.place b = some p)
 (hw : w'.os = w.os /\ w'.tape = w.tape /\ w'.output = w.output /\ w.heap.size <= w'.heap.size) (hk : ∀ k, k ≠ p.aH -> k < w.heap.size -> w'.heap[k]? = w.heap[k]?)
 (hi : ∀ o, g.bM p.aH o = none) (hm : g.bH p.aH = none) (hx : jg g w' p x') : aY g (U.set b x') w' := by
 obtain ⟨p', k1, k2, k3⟩ := h.live b x hb
 rw [hp] at k1; cases k1
 have eV : ∀ b' x' p', b' ≠ b -> U.live b' = some x' -> g.place b' = some p' -> p'.aH ≠ p.aH := fun b' x' p' bQ h1 h2 e => bQ (h.apart _ _ _ _ _ _ h1 hb h2 hp e)
 have hd : ∀ b' x' p', (U.del b).live b' = some x' -> g.place b' = some p' -> p'.aH ≠ p.aH := fun b' x' p' h1 h2 => by
  simp only [St.del] at h1
  split at h1
  · cases h1
  · rename_i e; exact eV _ _ _ e h1 h2
 have h1 := (h.weaken (St.ql U b)).change p.aH k2 (Gh.Le.refl g) rfl rfl hw hk (fun _ _ _ => rfl) (fun _ _ => rfl) (fun o u hu => by rw [hi] at hu; cases hu) (fun es c hr => by rw [hm] at hr; cases hr) hd (h.qP hb hp)
 have h2 := h1.named hp k2 hx (fun b' x' p' _ q1 q2 => hd b' x' p' q1 q2)
 have e : (U.del b).set b x' = U.set b x' := by
  simp only [St.del, St.set, St.mk.injEq, and_true]
  funext y
  split <;> rfl
 rw [<- e]; exact h2
theorem aY.cr {g : Gh} {U : St} {w : World} (h : aY g U w) (e : TypeId) (cur : Array Value) (vs rest : List Value) (l : List AV) (hc : cur.toList = vs ++ rest) (hl : aD g l vs) (h1 : ∀ u ∈ cur.toList, u.oneCell' = true) :
 ∃ b g', U.cQ b /\ Gh.Le g g' /\ g'.box b = some ⟨w.heap.size, e, cur.size⟩ /\ aY g' (U.new b (.box l)) (w.alloc (.cells cur e)) :=
 h.qF (.cells cur e) e cur.size (.box l) fun g' hle hi hm => ⟨cur, vs, rest, heap_alloc_new w _, rfl, hc, hl.mono hle, h1, hi⟩
theorem aY.JE {g : Gh} {U : St} {w : World} (h : aY g U w) (e : TypeId) (cur : Array Value) (vs rest : List Value) (hc : cur.toList = vs ++ rest) (h1 : ∀ u ∈ cur.toList, u.oneCell' = true) :
 ∃ g', Gh.Le g g' /\ jf g' w.heap.size 0 vs /\ (∀ o, vs.length <= o -> g'.bM w.heap.size o = none) /\ g'.place = g.place /\ aY g' U (w.alloc (.cells cur e)) := by
 let g' : Gh := { g with bM := fun aH o => if aH = w.heap.size then vs[o]? else g.bM aH o }
 have na : ∀ o, g'.bM w.heap.size o = vs[o]? := fun o => by show (if w.heap.size = w.heap.size then _ else _) = _; rw [if_pos rfl]
 have hold : ∀ aH o, aH ≠ w.heap.size -> g'.bM aH o = g.bM aH o := fun aH o hx => by show (if aH = w.heap.size then _ else _) = _; rw [if_neg hx]
 have hle : Gh.Le g g' := ⟨rfl, rfl, fun _ _ h => h, fun aH o u hu => by
  rw [hold _ _ (fun e => by subst e; rw [h.wo (df _)] at hu; cases hu)]; exact hu, fun _ _ h => h, fun _ h => h, fun q o hq => hold _ _ (by have := h.le; omega), fun _ _ => rfl⟩
 have hg := w.grownBy_alloc (.cells cur e) none
 refine ⟨g', hle, fun i u hu => by rw [ck, na]; exact hu, fun o ho => by rw [na]; simpa using ho, rfl, ?_⟩
 refine h.change w.heap.size h.le hle rfl rfl ⟨hg.os, hg.tape, hg.output, hg.size⟩ (fun k _ hk => hg.block k hk (by simp)) (fun q o hq => hold q o hq) (fun _ _ => rfl) (fun o u hu => ?_) (fun es c hr => ?_) (fun b x p k1 k2 => Nat.ne_of_lt (h.tU k1 k2)) (h.Ag (df _))
 · rw [na] at hu
   have YO : cur[o]? = some u := by
    rw [<- iH, hc, ua (by
     rcases eD o vs.length with h | h
     · exact h
     · simp [oK h] at hu)]
    exact hu
   exact ⟨by rw [cell_of_row _ _ _ cur e (0, 0) (heap_alloc_new w _)]; exact YO, h1 u (fi (by rw [iH]; exact YO))⟩
 · have : g.bH w.heap.size = some (es, c) := hr
   rw [h.tE (df _)] at this; cases this
theorem aY.kL {g : Gh} {U : St} {w : World} (h : aY g U w) {r : Nat} {c : Array Value} {e : TypeId} {f : Nat × Nat} (hh : w.heap[r]? = some (.cells c e f)) : g.bH r = none := by
 cases e : g.bH r with
 | none => rfl
 | some x => have := (h.bH r x.1 x.2 e).1; rw [hh] at this; cases this
theorem aY.setRow {g : Gh} {U : St} {w : World} (h : aY g U w) {b : Nat} {l l' : List AV} {x : Place} (hb : U.box b = some l) (hx : g.box b = some x)
 (cur : Array Value) (vs rest : List Value) (dG : cur.size = x.size) (hc : cur.toList = vs ++ rest) (hl : aD g l' vs) (h1 : ∀ u ∈ cur.toList, u.oneCell' = true) :
 aY g (U.bT b l') (w.setRow x.aH cur) := by
 obtain ⟨x', T4, vs0, Yd, k1, k2, k3, k4, k5, k6, k7, k8⟩ := h.box b l hb
 rw [hx] at k1; cases k1
 obtain ⟨y, hy, _⟩ := St.qj hb
 exact h.rewrite hy hx ⟨rfl, rfl, rfl, by simp⟩ (fun k hk _ => setRow_other _ _ _ _ hk) k8 (h.kL k3) ⟨cur, vs, rest, setRow_heap w x.aH T4 cur x.e (0, 0) k3, dG, hc, hl, h1, k8⟩
theorem aY.Yc {g : Gh} {U : St} {w : World} (h : aY g U w) {b : Nat} {l : List AV} (hb : U.box b = some l) : aY g (U.bT b l) w := by
 obtain ⟨y, hy, Vf⟩ := St.qj hb
 obtain ⟨p, h1, h2, hp⟩ := h.live b _ hy
 obtain ⟨cur, vs, rest, h3, h4, h5, h6, h7, h8⟩ := Vf _ _ _ hp
 exact h.rewrite hy h1 ⟨rfl, rfl, rfl, df _⟩ (fun _ _ _ => rfl) h8 (h.kL h3) ⟨cur, vs, rest, h3, h4, h5, h6, h7, h8⟩
theorem z6 {cur cur' : Array Value} {a : Nat} {news : List Value} (ha : a <= cur.size) (FA : cur'.toList = cur.toList.take a ++ news ++ cur.toList.drop (a + news.length)) (o : Nat) :
 cur'[o]? = if o < a then cur[o]? else if o < a + news.length then news[o - a]? else cur[o]? := by
 rw [<- iH, FA, pw]
 have hl : (cur.toList.take a).length = a := by simp; omega
 by_cases h1 : o < a
 · rw [if_pos h1, ua (by omega), List.getElem?_take, if_pos h1, iH]
 · rw [if_neg h1, List.getElem?_append_right (by omega), hl]
   by_cases h2 : o < a + news.length
   · rw [if_pos h2, ua (by omega)]
   · rw [if_neg h2, List.getElem?_append_right (by omega), List.getElem?_drop, iH]
     congr 1; omega
theorem aY.Wd {g : Gh} {U : St} {w : World} (h : aY g U w) {τ : Nat} {t : Tok} {aH c : Nat} (ht : U.tok τ = some t) (hg : g.tok τ = some (aH, c))
 (cur cur' : Array Value) (news : List Value) (m : Nat) (GV : w.heap[aH]? = some (.cells cur t.e (0, 0))) (hlen : news.length = m * t.size) (mr : t.n + m <= c)
 (FA : cur'.toList = cur.toList.take (t.n * t.size) ++ news ++ cur.toList.drop (t.n * t.size + news.length)) (h1 : ∀ u ∈ news, u.oneCell' = true) :
 ∃ rM g', (U.del τ).cQ rM /\ Gh.Le g g' /\ g'.tok rM = some (aH, c) /\ jf g' aH (t.n * t.size) news /\ aY g' ((U.del τ).new rM (.tok ⟨t.n + m, t.e, t.size⟩)) (w.setRow aH cur') := by
 obtain ⟨p, hp, FI, Za⟩ := Gh.iu.1 hg
 dsimp only at FI Za
 subst FI Za
 obtain ⟨p', k1, k2, T4, k3, k4, k5, k6, k7⟩ := h.live τ _ (St.iu.1 ht)
 rw [hp] at k1; cases k1
 rw [GV] at k3; cases k3
 have qp : (t.n + m) * t.size <= cur.size := by rw [k4]; exact Nat.mul_le_mul_right _ mr
 have AY : (t.n + m) * t.size = t.n * t.size + news.length := by rw [hlen, Nat.add_mul]
 have dG : cur'.size = cur.size := by
  have := congrArg List.length FA
  simp only [pr, fX, List.length_take, List.length_drop] at this
  omega
 let g' : Gh := { g with bM := fun q o => if q = p.aH /\ t.n * t.size <= o /\ o < t.n * t.size + news.length then news[o - t.n * t.size]? else g.bM q o }
 have k9 : ∀ q o, q ≠ p.aH -> g'.bM q o = g.bM q o := fun q o hq => by
  show (if _ then _ else _) = _
  rw [if_neg (fun e => hq e.1)]
 have hle : Gh.Le g g' := ⟨rfl, rfl, fun _ _ h => h, fun q o u hu => by
  show (if _ then _ else _) = _
  rw [if_neg (fun e => by obtain ⟨rfl, e2, _⟩ := e; rw [k7 o e2] at hu; cases hu)]; exact hu, fun _ _ h => h, fun _ h => h, fun q o hq => k9 _ _ (by omega), fun _ _ => rfl⟩
 have tC := setRow_heap w p.aH cur cur' t.e (0, 0) GV
 have po := fun o => z6 (cur := cur) (cur' := cur') (a := t.n * t.size) (news := news) (by omega) FA o
 have eV : ∀ b' x' p', (U.del τ).live b' = some x' -> g.place b' = some p' -> p'.aH ≠ p.aH := fun b' x' p' h1 h2 e => by
  simp only [St.del] at h1
  split at h1
  · cases h1
  · rename_i ne; exact ne (h.apart _ _ _ _ _ _ h1 (St.iu.1 ht) h2 hp e)
 have hs := (h.weaken (St.ql U τ)).change (w' := w.setRow p.aH cur') p.aH k2 hle rfl rfl ⟨rfl, rfl, rfl, by simp⟩ (fun k hk _ => setRow_other _ _ _ _ hk) k9 (fun _ _ => rfl) (fun o u hu => by
  rw [cell_of_row _ _ _ cur' t.e (0, 0) tC, po]
  have mj : (if p.aH = p.aH /\ t.n * t.size <= o /\ o < t.n * t.size + news.length then news[o - t.n * t.size]? else g.bM p.aH o) = some u := hu
  by_cases ho : o < t.n * t.size
  · rw [if_pos ho]
    rw [if_neg (by omega)] at mj
    have := h.bM _ _ _ mj
    rw [cell_of_row _ _ _ cur t.e (0, 0) GV] at this
    exact this
  · rw [if_neg ho]
    by_cases PV : o < t.n * t.size + news.length
    · rw [if_pos PV]
      rw [if_pos ⟨rfl, by omega, PV⟩] at mj
      exact ⟨mj, h1 u (fi mj)⟩
    · rw [if_neg (by omega)] at mj
      rw [k7 o (by omega)] at mj; cases mj) (fun es c hr => by
  have hr : g.bH p.aH = some (es, c) := hr
  rw [h.kL GV] at hr; cases hr) eV (h.qP (St.iu.1 ht) hp)
 obtain ⟨rM, f1, f2, f3⟩ := hs.newName p k2 eV
 refine ⟨rM, _, f1, hle.trans f2, Gh.iu.2 ⟨p, Gh.gY _ _ _, rfl, rfl⟩, fun i u hu => ?_, f3 _ ⟨cur', tC, by rw [dG]; exact k4, mr, k6, fun o ho => ?_⟩⟩
 · have hi : i < news.length := by
    rcases eD i news.length with h | h
    · exact h
    · simp [oK h] at hu
   show (if _ then _ else _) = _
   rw [if_pos ⟨rfl, by omega, by omega⟩, Nat.add_sub_cancel_left]; exact hu
 · have ho : (t.n + m) * t.size <= o := ho
   show (if _ then _ else _) = _
   rw [if_neg (by omega)]; exact k7 o (by omega)
theorem aY.rename {g : Gh} {U : St} {w : World} (h : aY g U w) {b : Nat} {x : Live} {p : Place} (hb : U.live b = some x) (hp : g.place b = some p) :
 ∃ b' g', (U.del b).cQ b' /\ Gh.Le g g' /\ g'.place b' = some p /\ aY g' ((U.del b).new b' x) w := by
 obtain ⟨p', k1, k2, k3⟩ := h.live b x hb
 rw [hp] at k1; cases k1
 obtain ⟨b', f1, f2, f3⟩ := (h.weaken (St.ql U b)).newName p k2 (fun b' x' p' h1 h2 e => by
  simp only [St.del] at h1
  split at h1
  · cases h1
  · rename_i ne; exact ne (h.apart _ _ _ _ _ _ h1 hb h2 hp e))
 exact ⟨b', _, f1, f2, Gh.gY _ _ _, f3 x (k3.frame f2.r rfl (fun _ => rfl) rfl)⟩
theorem aY.kO {g : Gh} {U : St} {w : World} (h : aY g U w) (e : TypeId) (size n c : Nat) (cur : Array Value) (vs rest : List Value) (hc : cur.toList = vs ++ rest) (h1 : ∀ u ∈ cur.toList, u.oneCell' = true)
 (vp : vs.length = n * size) (qp : cur.size = c * size) (AX : n <= c) (sF : c <= maxLen) :
 ∃ τ g', U.cQ τ /\ Gh.Le g g' /\ g'.tok τ = some (w.heap.size, c) /\ jf g' w.heap.size 0 vs /\ aY g' (U.new τ (.tok ⟨n, e, size⟩)) (w.alloc (.cells cur e)) := by
 obtain ⟨g1, CU, k9, eV, pC, hs⟩ := h.JE e cur vs rest hc h1
 obtain ⟨τ, f1, f2, f3⟩ := hs.newName ⟨w.heap.size, e, c⟩ (by rw [CU.base]; exact h.le) (fun b' x' p' k1 k2 => by rw [pC] at k2; exact Nat.ne_of_lt (h.tU k1 k2))
 exact ⟨τ, _, f1, CU.trans f2, Gh.iu.2 ⟨_, Gh.gY _ _ _, rfl, rfl⟩, k9, f3 _ ⟨cur, heap_alloc_new w _, qp, AX, sF, fun o ho => eV o (by rw [vp]; exact ho)⟩⟩
theorem aY.freeze {g : Gh} {U : St} {w : World} (h : aY g U w) {b : Nat} {l : List AV} {x : Place} (hb : U.box b = some l) (hx : g.box b = some x) :
 ∃ g' vs, Gh.Le g g' /\ g'.place = g.place /\ jf g' x.aH 0 vs /\ aD g l vs /\ aY g' (U.del b) w := by
 obtain ⟨x', cur, vs, rest, k1, k2, k3, k4, k5, k6, k7, k8⟩ := h.box b l hb
 rw [hx] at k1; cases k1
 let g' : Gh := { g with bM := fun q o => if q = x.aH then cur[o]? else g.bM q o }
 have na : ∀ o, g'.bM x.aH o = cur[o]? := fun o => by show (if x.aH = x.aH then _ else _) = _; rw [if_pos rfl]
 have hold : ∀ q o, q ≠ x.aH -> g'.bM q o = g.bM q o := fun q o hq => by show (if q = x.aH then _ else _) = _; rw [if_neg hq]
 have hle : Gh.Le g g' := ⟨rfl, rfl, fun _ _ h => h, fun q o u hu => by
  rw [hold _ _ (fun e => by subst e; rw [k8] at hu; cases hu)]; exact hu, fun _ _ h => h, fun _ h => h, fun q o hq => hold _ _ (by omega), fun _ _ => rfl⟩
 refine ⟨g', vs, hle, rfl, fun i u hu => by
  have hi : i < vs.length := by
   rcases eD i vs.length with h | h
   · exact h
   · simp [oK h] at hu
  rw [ck, na, <- iH, k5, ua hi]; exact hu, k6, ?_⟩
 obtain ⟨y, hy, _⟩ := St.qj hb
 refine (h.weaken (St.ql U b)).change x.aH k2 hle rfl rfl ⟨rfl, rfl, rfl, df _⟩ (fun _ _ _ => rfl) hold (fun _ _ => rfl) (fun o u hu => ?_) (fun es c hr => ?_) (fun b' x' p' h1 h2 e => ?_) (h.qP hy hx)
 · rw [na] at hu
   rw [cell_of_row _ _ _ cur x.e (0, 0) k3]
   exact ⟨hu, k7 u (fi (by rw [iH]; exact hu))⟩
 · have hr : g.bH x.aH = some (es, c) := hr
   rw [h.kL k3] at hr; cases hr
 · simp only [St.del] at h1
   split at h1
   · cases h1
   · rename_i ne; exact ne (h.apart _ _ _ _ _ _ h1 hy h2 hx e)
theorem aY.J4 {g : Gh} {U : St} {w : World} (h : aY g U w) {m r : Nat} {kv kv' : List AV × List AV} {es sy : Array MapEntry} {clock sv : Nat} (hm : U.mp m = some kv) (hg : g.mp m = some r) (hh : w.heap[r]? = some (.map es clock))
 (h1 : th g kv'.1 kv'.2 sy) (h2 : iv sy sv) :
 aY g (U.Yk m kv') { w with heap := w.heap.setIfInBounds r (Obj.map sy sv) } := by
 obtain ⟨p, hp, rfl⟩ := Gh.mM.1 hg
 obtain ⟨p', k1, k2, es0, cl0, k3, k4, k5, k6⟩ := h.live m _ (St.mM.1 hm)
 rw [hp] at k1; cases k1
 have aJ := (iE.1 hh).1
 have bQ : ∀ k, k ≠ p.aH -> (w.heap.setIfInBounds p.aH (Obj.map sy sv))[k]? = w.heap[k]? := fun k hk => Array.getElem?_setIfInBounds_ne (Ne.symm hk)
 have na : (w.heap.setIfInBounds p.aH (Obj.map sy sv))[p.aH]? = some (Obj.map sy sv) := by simp [aJ]
 exact h.rewrite (St.mM.1 hm) hp ⟨rfl, rfl, rfl, by simp⟩ (fun k hk _ => bQ k hk) (fun o => by
  cases e : g.bM p.aH o with
  | none => rfl
  | some u => have := (h.bM _ _ _ e).1; simp [World.cell?, hh] at this) k6 ⟨sy, sv, na, h2, h1, k6⟩
theorem aY.shut {g : Gh} {U : St} {w : World} (h : aY g U w) {r : Nat} (hr : g.res r = true) : aY { g with res := fun x => if x = r then false else g.res x } U { w with heap := w.heap.setIfInBounds r (Obj.deferred none) } := by
 obtain ⟨k2, hh⟩ := h.res r hr
 have bQ : ∀ k, k ≠ r -> (w.heap.setIfInBounds r (Obj.deferred none))[k]? = w.heap[k]? := fun k hk => Array.getElem?_setIfInBounds_ne (Ne.symm hk)
 have hl : Gh.qg g { g with res := fun x => if x = r then false else g.res x } := ⟨fun _ _ h => h, fun _ _ _ h => h, fun _ _ h => h⟩
 exact {
  below := h.below.trans ⟨rfl, rfl, rfl, by simp, fun k hk => bQ k (by have := h.le; omega)⟩
  le := by simpa using h.le
  bM := fun aH o u hi => by
   have il := h.bM _ _ _ hi
   have : World.cell? { w with heap := w.heap.setIfInBounds r (Obj.deferred none) } ⟨aH, o, none⟩ = w.cell? ⟨aH, o, none⟩ := by
    simp only [World.cell?]
    rw [bQ aH (fun e => by subst e; simp [World.cell?, hh] at il)]
   rw [this]; exact il
  bH := fun r' es c hr => by
   obtain ⟨h1, h2⟩ := h.bH r' es c hr
   refine ⟨?_, h2⟩
   show (w.heap.setIfInBounds r (Obj.deferred none))[r']? = _
   rw [bQ r' (fun e => by subst e; rw [hh] at h1; cases h1)]; exact h1
  live := fun b x hb => by
   obtain ⟨p, h1, h2, h3⟩ := h.live b x hb
   exact ⟨p, h1, h2, h3.frame hl (bQ _ (h3.F0 hh)) (fun _ => rfl) rfl⟩
  apart := h.apart
  res := fun r' qy => by
   have qy : (if r' = r then false else g.res r') = true := qy
   split at qy
   · cases qy
   · rename_i e
     obtain ⟨q1, q2⟩ := h.res r' qy
     exact ⟨q1, by show (w.heap.setIfInBounds r (Obj.deferred none))[r']? = _; rw [bQ r' e]; exact q2⟩
  fin := h.fin }
theorem aY.RM {g : Gh} {U : St} {w : World} (h : aY g U w) : Gh.Le g { g with res := fun x => if x = w.heap.size then true else g.res x } /\ aY { g with res := fun x => if x = w.heap.size then true else g.res x } U (w.alloc (.deferred (some []))) := by
 have hl : Gh.qg g { g with res := fun x => if x = w.heap.size then true else g.res x } := ⟨fun _ _ h => h, fun _ _ _ h => h, fun _ _ h => h⟩
 refine ⟨⟨rfl, rfl, fun _ _ h => h, fun _ _ _ h => h, fun _ _ h => h, fun b hb => by show (if _ then _ else _) = _; split <;> simp_all, fun _ _ _ => rfl, fun _ _ => rfl⟩, ?_⟩
 have hs := h.grow (w.grownBy_alloc (.deferred (some [])) none)
 exact {
  below := hs.below
  le := hs.le
  bM := hs.bM
  bH := hs.bH
  live := fun b x hb => by
   obtain ⟨p, h1, h2, h3⟩ := hs.live b x hb
   exact ⟨p, h1, h2, h3.frame hl rfl (fun _ => rfl) rfl⟩
  apart := hs.apart
  res := fun r hr => by
   have hr : (if r = w.heap.size then true else g.res r) = true := hr
   split at hr
   · rename_i e; subst e; exact ⟨h.le, heap_alloc_new w _⟩
   · exact hs.res r hr
  fin := hs.fin }
end Go.Rip
namespace Go.Rip
open Go.RowKit
def jx : Value -> Option AV
 | .bool b => some (.bool b)
 | .int k n => some (.int k n)
 | .string s => some (.str s.data.toList)
 | .pointer none => some .a7
 | .slice none 0 0 => some .al
 | .map none => some .jT
 | .nilFunc => some .cZ
 | .nilIface => some .cN
 | _ => none
def M9 : Option (List AV) -> AV
 | some l => .agg l
 | none => .any
def AI : Value -> AV
 | .agg cs => M9 (cs.toList.mapM jx)
 | .func fn f c => if f.isEmpty && c.isEmpty then .func fn [] [] else .any
 | .tuple vs => if vs.isEmpty then .aQ [] else .any
 | v => (jx v).getD .any
def zE : TypeDesc -> Bool
 | .struct _ | .array _ _ => true
 | _ => false
def lh (P : Program) (t : TypeId) : Option (Bool × Nat) :=
 match P.info? t, P.underlying t with
 | some i, some d => some (zE d, i.size)
 | _, _ => none
def mY (P : Program) (t : TypeId) : Option (List AV) := ((P.info? t).bind (·.zero)).bind fun z => z.cells.toList.mapM jx
def dU (P : Program) (t : TypeId) : Option (TypeId × Nat) :=
 match P.underlying t with
 | some (.slice e) => match P.info? e with
   | some i => match i.zero with
     | some z => if z.cells.size = i.size /\ 0 < i.size /\ i.bytes <= 32768 /\ z.cells.all (·.oneCell') then some (e, i.size) else none
     | none => none
   | none => none
 | _ => none
def u3 (P : Program) (s : TypeId) (f : Nat) : Option Nat :=
 match P.underlying s with
 | some (.struct fields) => match fields[f]? with
   | some x => if P.cellsOf x.type ≠ 0 then some x.offset else none
   | none => none
 | _ => none
def wD (P : Program) (t : TypeId) : Option (List (Nat × Nat)) :=
 match P.underlying t with
 | some (.struct fields) => if fields.all (fun f => (P.info? f.type).isSome) then some (fields.toList.map fun f => (f.offset, P.cellsOf f.type)) else none
 | _ => none
def dB (P : Program) (f : FuncId) : Bool :=
 match P.funcs[f]? with
 | some fn => fn.body.isSome && !(fn.name == "runtime.NumGoroutine")
 | none => false
structure cu where
 P : Program
 u6 : Nat -> AV
 fixed : Nat -> Option (Array Value) := fun _ => none
def fP (C : cu) (g : Gh) : Prop := (∀ i, ay g (C.u6 i) (.pointer (some ⟨i, 0, none⟩))) /\ ∀ i cs, C.fixed i = some cs -> i < g.base /\ ∃ t fr, g.w0.heap[i]? = some (.cells cs t fr)
theorem fP.mono {C : cu} {g g' : Gh} (h : fP C g) (hl : Gh.Le g g') : fP C g' := ⟨fun i => (h.1 i).mono hl, fun i cs hi => by rw [hl.base, hl.w0]; exact h.2 i cs hi⟩
structure Env where
 get : Nat -> AV
def Env.put (ρ : Env) (d : Nat) (v : AV) : Env := ⟨fun t => if t = d then v else ρ.get t⟩
def Env.dO (ρ : Env) : Option Nat -> AV -> Env
 | some d, v => ρ.put d v
 | none, _ => ρ
def Env.ev (C : cu) (ρ : Env) : Operand -> AV
 | .tmp t => ρ.get t
 | .const v => AI v
 | .global g => C.u6 g
 | .func f => .func (.func f) [] []
def fg (g : Gh) (ρ : Env) (tmps : Array Value) : Prop := ∀ t, ay g (ρ.get t) (tmps.getD t undef)
theorem fg.mono {g g' : Gh} (h : Gh.Le g g') {ρ : Env} {tmps : Array Value} (hr : fg g ρ tmps) : fg g' ρ tmps := fun t => (hr t).mono h
theorem fg.put {g : Gh} {ρ : Env} {tmps : Array Value} (hr : fg g ρ tmps) {d : Nat} {x : AV} {v : Value} (hd : d < tmps.size) (hx : ay g x v) : fg g (ρ.put d x) (tmps.setIfInBounds d v) := fun t => by
 simp only [Env.put]
 by_cases ht : t = d
 · subst ht
   rw [if_pos rfl]
   simpa [Array.getD, hd] using hx
 · rw [if_neg ht]
   have := hr t
   simp only [Array.getD_eq_getD_getElem?] at this ⊢
   rw [Array.getElem?_setIfInBounds_ne (Ne.symm ht)]
   exact this
theorem vE {g : Gh} {v : Value} {x : AV} (h : jx v = some x) : ay g x v /\ v.oneCell' = true := by
 unfold jx at h
 split at h <;> first
  | (cases h; simp [ay, Value.oneCell']; done)
  | cases h
theorem dE {g : Gh} : ∀ {vs : List Value} {l : List AV}, vs.mapM jx = some l -> aD g l vs /\ ∀ u ∈ vs, u.oneCell' = true
 | [], l, h => by
   simp at h; subst h; simp [aD]
 | v :: vs, l, h => by
   simp only [List.mapM_cons, bind, Option.bind_eq_some_iff, pure, gr] at h
   obtain ⟨x, hx, l', AW, rfl⟩ := h
   obtain ⟨h1, h2⟩ := vE (g := g) hx
   obtain ⟨h3, h4⟩ := dE (g := g) AW
   refine ⟨by simp only [aD]; exact ⟨v, vs, rfl, h1, h3⟩, fun u hu => ?_⟩
   simp only [ep] at hu
   rcases hu with rfl | hu
   · exact h2
   · exact h4 u hu
theorem HF {g : Gh} (v : Value) : ay g ((jx v).getD .any) v := by
 cases h : jx v with
 | none => simp only [Option.getD_none, ay]
 | some x => exact (vE h).1
theorem zN {g : Gh} (v : Value) : ay g (AI v) v := by
 cases v with
 | agg cs =>
   simp only [AI]
   cases h : cs.toList.mapM jx with
   | none => simp only [M9, ay]
   | some l => simp only [M9, ay]; exact ⟨cs.toList, by simp, (dE (g := g) h).2, (dE h).1⟩
 | func fn f c =>
   simp only [AI]
   split
   · rename_i h
     simp only [bN, Array.isEmpty_iff] at h
     obtain ⟨rfl, rfl⟩ := h
     simp only [ay]; exact ⟨[], [], rfl, by simp [aD], by simp [aD]⟩
   · simp only [ay]
 | tuple vs =>
   simp only [AI]
   split
   · rename_i h
     simp only [Array.isEmpty_iff] at h
     subst h
     simp only [ay]; exact ⟨[], rfl, by simp [aD]⟩
   · simp only [ay]
 | _ => simp only [AI]; exact HF _
theorem qn {C : cu} {g : Gh} (hG : fP C g) {ρ : Env} {a : Act} (hr : fg g ρ a.tmps) (x : Operand) : ay g (ρ.ev C x) (a.eval x) := by
 cases x with
 | tmp t => exact hr t
 | const v => exact zN v
 | global i => exact hG.1 i
 | func f => simp only [Env.ev, Act.eval, ay]; exact ⟨[], [], rfl, by simp [aD], by simp [aD]⟩
inductive NV where
 | box
 | tok (n : Nat) (l : List AV)
 | ms (n gz : Nat) (e : TypeId)
 | mp
 | it
def NV.at (b : Nat) : NV -> AV
 | .box => .box b 0
 | .tok n l => .vec n (.own b) l
 | .ms n gz e => .ms b 0 n gz e
 | .mp => .mp b
 | .it => .it b
inductive av where
 | val (v : AV)
 | jD (v : AV) (b : Nat) (x : Live)
 | new (k : NV) (del : Option Nat) (x : Live)
 | ji (b : Nat) (l : List (AV × Live))
 | enter (f : FuncId) (args : List AV)
 | yield (l : Nat) (args : List AV)
 | panic (v : AV)
 | cond (p : Prop) [d : Decidable p] (r : av)
 | bad
abbrev av.cr (l : List AV) : av := .new .box none (.box l)
abbrev av.kO (n : Nat) (l : List AV) (del : Option Nat) (t : Tok) : av := .new (.tok n l) del (.tok t)
abbrev av.lZ (n gz : Nat) (e : TypeId) (del : Option Nat) (l : List AV) : av := .new (.ms n gz e) del (.box l)
abbrev av.BY : av := .new .mp none (.mp [] [])
def St.pn (U : St) : Option Nat -> St
 | some b => U.del b
 | none => U
def av.Fits (C : cu) (g : Gh) (U : St) : av -> Result Next -> Prop
 | .val v, res => ∃ u w' g', (res = .ok (.value u) w' \/ (res = .ok .skip w' /\ u = undef)) /\ Gh.Le g g' /\ aY g' U w' /\ ay g' v u
 | .jD v b x, res => ∃ u w' g', (res = .ok (.value u) w' \/ (res = .ok .skip w' /\ u = undef)) /\ Gh.Le g g' /\ aY g' (U.set b x) w' /\ ay g' v u
 | .new k del x, res => ∃ u w' g' b, res = .ok (.value u) w' /\ (U.pn del).cQ b /\ Gh.Le g g' /\ aY g' ((U.pn del).new b x) w' /\ ay g' (k.at b) u
 | .ji b l, res => ∃ u w' g' v x, res = .ok (.value u) w' /\ (v, x) ∈ l /\ Gh.Le g g' /\ aY g' (U.set b x) w' /\ ay g' v u
 | .enter f args, res => ∃ vs w', res = .ok (.enter f (List.toArray vs)) w' /\ aY g U w' /\ aD g args vs
 | .yield o args, res => ∃ vs x w w', g.place o = some x /\ res = (Instr.yield x.aH (List.toArray vs)).run C.P w /\ w' = w /\ aY g U w /\ aD g args vs
 | .panic v, res => ∃ u w', res = .halt (.panic u) w' /\ aY g U w' /\ ay g v u
 | @av.cond p _ r, res => p -> r.Fits C g U res
 | .bad, _ => True
theorem aT {C : cu} {g : Gh} {U : St} {w : World} {v : AV} {u : Value} (h : aY g U w) (hr : ay g v u) : av.Fits C g U (.val v) (.ok (.value u) w) :=
 ⟨u, w, g, .inl rfl, Gh.Le.refl g, h, hr⟩
def uy (n : Int) : Prop := -9223372036854775808 <= n /\ n <= 9223372036854775807
instance (n : Int) : Decidable (uy n) := inferInstanceAs (Decidable (_ /\ _))
theorem uv {n : Int} (h : uy n) : IntKind.i64.wrap n = n := by
 obtain ⟨h1, h2⟩ := h
 have e : IntKind.i64.wrap n = if n % 18446744073709551616 >= 9223372036854775808 then n % 18446744073709551616 - 18446744073709551616 else n % 18446744073709551616 := by
  simp [IntKind.wrap, IntKind.bits, IntKind.signed]
 rw [e]
 split <;> omega
def sP (P : Program) (t : TypeId) : Bool := match P.underlying t with | some .bool => true | _ => false
def iz (P : Program) (t : TypeId) : Bool := match P.underlying t with | some (.interface _) => true | _ => false
def jR (P : Program) (t : TypeId) : Bool := match P.underlying t with | some (.pointer _) => true | _ => false
def nf (P : Program) (t : TypeId) : Bool := match P.underlying t with | some (.slice _) => true | _ => false
def gk (k : IntKind) (n : Int) : av :=
 match k with
 | .i64 => .cond (uy n) (.val (.int .i64 n))
 | k => .val (.int k (k.wrap n))
inductive FK where
 | i
 | s
 | b
def mi : List FK -> List AV -> List AV -> Option Bool
 | [], [], [] => some true
 | .i :: ks, .int k a :: xs, .int k' b :: ys => if k = k' then (mi ks xs ys).map fun r => (a == b) && r else none
 | .s :: ks, .str a :: xs, .str b :: ys => (mi ks xs ys).map fun r => (a == b) && r
 | .b :: ks, .bool a :: xs, .bool b :: ys => (mi ks xs ys).map fun r => (a == b) && r
 | _, _, _ => none
def Ip (P : Program) (f : Field) (i : Nat) : Option FK :=
 if f.offset = i /\ f.name ≠ "_" then
  match P.underlying f.type with
  | some .bool => some .b
  | some (.int _) => some .i
  | some .string => some .s
  | _ => none
 else none
def sA (P : Program) : List Field -> Nat -> Option (List FK)
 | [], _ => some []
 | f :: fs, i => match Ip P f i, sA P fs (i + 1) with
   | some k, some ks => some (k :: ks)
   | _, _ => none
def GL (P : Program) (t : TypeId) : Option (List FK) :=
 match P.underlying t with
 | some (.struct fields) => if P.stoodInHeld t = false /\ P.eqGuardType P.depth t = false then sA P fields.toList 0 else none
 | _ => none
def Fq (P : Program) (t : TypeId) (a b : List AV) : Option Bool :=
 match GL P t with
 | some ks => mi ks a b
 | none => none
def so (f : Bool -> AV) : Option Bool -> av
 | some r => .val (f r)
 | none => .bad
def Gv (P : Program) (op : BinOp) (t : TypeId) (x y : AV) : av :=
 match op, x, y with
 | .add, .int k a, .int k' b => if k = k' then gk k (a + b) else .bad
 | .sub, .int k a, .int k' b => if k = k' then gk k (a - b) else .bad
 | .mul, .int k a, .int k' b => if k = k' then gk k (a * b) else .bad
 | .quo, .int k a, .int k' b => if k = k' then .cond (b ≠ 0) (gk k (a.tdiv b)) else .bad
 | .rem, .int k a, .int k' b => if k = k' then .cond (b ≠ 0) (.val (.int k (a.tmod b))) else .bad
 | .and, .int k a, .int k' b => if k = k' then .val (.int k (k.wrap (BitVec.ofInt k.bits a &&& BitVec.ofInt k.bits b).toNat)) else .bad
 | .or, .int k a, .int k' b => if k = k' then .val (.int k (k.wrap (BitVec.ofInt k.bits a ||| BitVec.ofInt k.bits b).toNat)) else .bad
 | .eql, .int k a, .int k' b => if k = k' then .val (.bool (a == b)) else .bad
 | .neq, .int k a, .int k' b => if k = k' then .val (.bool (a != b)) else .bad
 | .lss, .int k a, .int k' b => if k = k' then .val (.bool (decide (a < b))) else .bad
 | .leq, .int k a, .int k' b => if k = k' then .val (.bool (decide (a <= b))) else .bad
 | .gtr, .int k a, .int k' b => if k = k' then .val (.bool (decide (a > b))) else .bad
 | .geq, .int k a, .int k' b => if k = k' then .val (.bool (decide (a >= b))) else .bad
 | .eql, .str a, .str b => .val (.bool (a == b))
 | .neq, .str a, .str b => .val (.bool (a != b))
 | .add, .str a, .str b => .cond (a.length + b.length <= 4294967296) (.val (.str (a ++ b)))
 | .eql, .bool a, .bool b => if sP P t = true then .val (.bool (a == b)) else .bad
 | .neq, .bool a, .bool b => if sP P t = true then .val (.bool (a != b)) else .bad
 | .eql, .agg a, .agg b => so .bool (Fq P t a b)
 | .neq, .agg a, .agg b => so (fun r => .bool (!r)) (Fq P t a b)
 | .eql, .iface _ _, .cN => if iz P t = true then .val (.bool false) else .bad
 | .neq, .iface _ _, .cN => if iz P t = true then .val (.bool true) else .bad
 | .eql, .a7, .a7 => if jR P t = true then .val (.bool true) else .bad
 | .eql, .box _ _, .a7 => if jR P t = true then .val (.bool false) else .bad
 | .neq, .a7, .a7 => if jR P t = true then .val (.bool false) else .bad
 | .neq, .box _ _, .a7 => if jR P t = true then .val (.bool true) else .bad
 | .eql, .cj _, .a7 => if jR P t = true then .val (.bool false) else .bad
 | .neq, .cj _, .a7 => if jR P t = true then .val (.bool true) else .bad
 | .eql, .al, .al => if nf P t = true then .val (.bool true) else .bad
 | .eql, .vec _ _ _, .al => if nf P t = true then .val (.bool false) else .bad
 | .eql, .ms _ _ _ _ _, .al => if nf P t = true then .val (.bool false) else .bad
 | _, _, _ => .bad
def isLit : Operand -> Bool
 | .const _ => true
 | _ => false
def Cq (P : Program) (op : BinOp) (t : TypeId) (lit : Bool) (x y : AV) : av :=
 match op, x, y with
 | .eql, .cN, .cN => if iz P t = true /\ lit = true then .val (.bool true) else .bad
 | .neq, .cN, .cN => if iz P t = true /\ lit = true then .val (.bool false) else .bad
 | op, x, y => Gv P op t x y
end Go.Rip
namespace Go.Rip
open Go.RowKit
def AV.scalar : AV -> Bool
 | .agg _ | .aQ _ | .any => false
 | _ => true
def ax : AV -> List AV
 | .agg l => l
 | v => [v]
theorem Ai {g : Gh} {x : AV} {v : Value} (h : ay g x v) (hs : x.scalar = true) : v.oneCell' = true := by
 cases x <;> simp only [AV.scalar, bq] at hs <;> simp only [ay] at h
 all_goals first
  | (subst h; rfl)
  | (obtain ⟨_, _, rfl⟩ := h; rfl)
  | (obtain ⟨_, _, _, rfl, _⟩ := h; rfl)
  | (obtain ⟨_, _, _, _, rfl, _⟩ := h; rfl)
  | (obtain ⟨_, _, _, rfl, _⟩ := h; rfl)
  | (obtain ⟨_, _, rfl, _⟩ := h; rfl)
  | (obtain ⟨_, rfl, _⟩ := h; rfl)
  | (obtain ⟨_, _, _, _, rfl, _⟩ := h; rfl)
def AV.cS : AV -> Bool
 | .aQ _ | .any => false
 | _ => true
theorem uW {g : Gh} {x : AV} {v : Value} (h : ay g x v) (hs : x.cS = true) : aD g (ax x) v.cells.toList /\ ∀ u ∈ v.cells.toList, u.oneCell' = true := by
 by_cases ha : ∃ l, x = .agg l
 · obtain ⟨l, rfl⟩ := ha
   simp only [ay] at h
   obtain ⟨vs, rfl, h1, h2⟩ := h
   exact ⟨by simpa [ax, Value.cells] using h2, by simpa [Value.cells] using h1⟩
 · have P1 : x.scalar = true := by cases x <;> simp_all [AV.cS, AV.scalar]
   have h1 := Ai h P1
   have hc : ax x = [x] := by cases x <;> simp_all [ax]
   have hv : v.cells = #[v] := by cases v <;> simp_all [Value.cells, Value.oneCell']
   rw [hc, hv]
   exact ⟨by simp only [aD]; exact ⟨v, [], rfl, h, rfl⟩, by simpa using h1⟩
def jL (U : St) : AV -> Option (List AV)
 | .box b off => (U.box b).map (·.drop off)
 | .cj l => some l
 | _ => none
theorem oW {g : Gh} {U : St} {w : World} (h : aY g U w) {p : AV} {v : Value} {l : List AV} (hp : ay g p v) (hl : jL U p = some l) :
 ∃ a vs, v = .pointer (some a) /\ a.spot = none /\ aD g l vs /\ ∀ j u, vs[j]? = some u -> w.cell? (a.add j) = some u /\ u.oneCell' = true := by
 have ix : ∀ aH off j, (⟨aH, off, none⟩ : Addr).add j = ⟨aH, off + j, none⟩ := fun aH off j => by unfold Addr.add; split <;> simp_all
 cases p <;> simp only [jL, reduceCtorEq] at hl
 · rename_i b off
   cases hb : U.box b with
   | none => simp [hb] at hl
   | some l0 =>
     simp [hb] at hl
     subst hl
     simp only [ay] at hp
     obtain ⟨x, hx, rfl⟩ := hp
     obtain ⟨x', cur, vs, rest, k1, k2, k3, k4, k5, k6, k7, k8⟩ := h.box b l0 hb
     rw [hx] at k1; cases k1
     refine ⟨⟨x.aH, off, none⟩, vs.drop off, rfl, rfl, k6.drop off, fun j u hu => ?_⟩
     rw [ix, cell_of_row _ _ _ cur x.e (0, 0) k3]
     rw [List.getElem?_drop] at hu
     have aJ : off + j < vs.length := by
      rcases eD (off + j) vs.length with h | h
      · exact h
      · simp [oK h] at hu
     have : cur[off + j]? = some u := by rw [<- iH, k5, ua aJ]; exact hu
     exact ⟨this, k7 u (fi (by rw [iH]; exact this))⟩
 · cases hl
   simp only [ay] at hp
   obtain ⟨aH, off, vs, rfl, hi, hr⟩ := hp
   exact ⟨⟨aH, off, none⟩, vs, rfl, rfl, hr, fun j u hu => by rw [ix]; exact h.bM _ _ _ (hi j u hu)⟩
def fW : List AV -> av
 | x :: _ => .val x
 | [] => .bad
def rn (P : Program) (t : TypeId) (p : AV) (U : St) : av :=
 match lh P t, jL U p with
 | some (true, sz), some l => .cond (sz <= l.length) (.val (.agg (l.take sz)))
 | some (false, _), some l => fW l
 | _, _ => .bad
theorem lT {P : Program} {t : TypeId} {b : Bool} {sz : Nat} (h : lh P t = some (b, sz)) :
 ∃ i d, P.info? t = some i /\ P.underlying t = some d /\ zE d = b /\ i.size = sz := by
 unfold lh at h
 split at h
 · rename_i i d hi hd
   simp only [gr, jz] at h
   exact ⟨i, d, hi, hd, h.1, h.2⟩
 · cases h
theorem jm {P : Program} {t : TypeId} {d : TypeDesc} (h : P.underlying t = some d) (w : World) : (isAgg t).run P w = .ok (zE d) w := by
 simp only [isAgg, bK, run_underlying h, bW]
 cases d <;> rfl
theorem dF {P : Program} {t : TypeId} {i : TypeInfo} (h : P.info? t = some i) (w : World) : (sizeOf t).run P w = .ok i.size w := by
 simp [sizeOf, typeInfo, h]
section
variable {C : cu} {g : Gh} {U : St} {w : World}
theorem Hk (h : aY g U w) {t : TypeId} {p : AV} {v : Value} (hp : ay g p v) : av.Fits C g U (rn C.P t p U) ((do let x <- Instr.loadAt t v; pure (Next.value x) : Sem Next).run C.P w) := by
 unfold rn
 split
 · rename_i b sz l hv hl
   obtain ⟨i, d, hi, hd, hb, dG⟩ := lT hv
   obtain ⟨a, vs, rfl, ha, hr, hc⟩ := oW h hp hl
   intro hle
   have hlen := hr.length
   have fy : (loadCells a (vs.take sz).length).run C.P w = .ok (vs.take sz).toArray w :=
    run_loadCells_list (P := C.P) w a (vs.take sz) fun j u hu => by
     rw [List.getElem?_take] at hu
     split at hu
     · exact (hc j u hu).1
     · cases hu
   have qu : (vs.take sz).length = sz := by simp; omega
   rw [qu] at fy
   simp only [Instr.loadAt, Instr.sureAddr, loadVar, bK, bY, bW, jm hd, hb, if_true, dF hi, dG, fy, dT]
   have Iw : ∀ u ∈ vs.take sz, u.oneCell' = true := fun u hu => by
    obtain ⟨j, hj⟩ := List.getElem?_of_mem hu
    rw [List.getElem?_take] at hj
    split at hj
    · exact (hc j u hj).2
    · cases hj
   exact aT h (by simp only [ay]; exact ⟨_, rfl, Iw, hr.take sz⟩)
 · rename_i b sz l hv hl
   obtain ⟨i, d, hi, hd, hb, dG⟩ := lT hv
   obtain ⟨a, vs, rfl, ha, hr, hc⟩ := oW h hp hl
   cases l with
   | nil => trivial
   | cons x xs =>
     simp only [aD] at hr
     obtain ⟨u, us, rfl, h1, h2⟩ := hr
     have := (hc 0 u rfl).1
     have h0 : a.add 0 = a := by simp [Addr.add]
     rw [h0] at this
     simp only [Instr.loadAt, Instr.sureAddr, loadVar, bK, bY, bW, jm hd, hb, bq, if_false, run_load, this, dT]
     exact aT h h1
 · trivial
def aA (l : List AV) (off : Nat) (cs : List AV) : List AV := l.take off ++ cs ++ l.drop (off + cs.length)
def D1 (P : Program) (t : TypeId) (p v : AV) (U : St) : av :=
 match lh P t, p with
 | some (_, sz), .box b off => match U.box b with
   | some l => .cond (v.cS = true /\ (ax v).length = sz /\ off + sz <= l.length) (.jD (.aQ []) b (.box (aA l off (ax v))))
   | none => .bad
 | _, _ => .bad
theorem sW (h : aY g U w) {b off : Nat} {l : List AV} {x : Place} (hb : U.box b = some l) (hx : g.box b = some x) {cs : List AV} {us : List Value} (hr : aD g cs us) (h1 : ∀ u ∈ us, u.oneCell' = true)
 (mr : off + cs.length <= l.length) : ∃ w', (storeCells ⟨x.aH, off, none⟩ us).run C.P w = .ok () w' /\ aY g (U.bT b (aA l off cs)) w' := by
 obtain ⟨x', cur, vs, rest, k1, k2, k3, k4, k5, k6, k7, k8⟩ := h.box b l hb
 rw [hx] at k1; cases k1
 have IN := hr.length
 have qu := k6.length
 have dG : cur.size = vs.length + rest.length := by rw [<- pr, k5, fX]
 have fy := run_storeCells_at C.P x.aH off x.e us 0 cur w k3 (by omega) h1
 simp only [Nat.add_zero] at fy
 refine ⟨_, fy, ?_⟩
 have e : cur.toList.take off ++ us ++ cur.toList.drop (off + us.length) = (vs.take off ++ us ++ vs.drop (off + us.length)) ++ rest := by
  rw [k5, List.take_append_of_le_length (by omega), List.drop_append_of_le_length (by omega)]
  simp
 refine h.setRow hb hx _ (vs.take off ++ us ++ vs.drop (off + us.length)) rest ?_ (by simpa using e) ?_ ?_
 · rw [<- pr]
   have := congrArg List.length e
   simp only [fX, List.length_take, List.length_drop] at this
   simp only [fX, List.length_take, List.length_drop, pr] at this ⊢
   omega
 · unfold aA
   rw [IN]
   exact ((k6.take off).append hr).append (k6.drop _)
 · intro u hu
   simp only [fC] at hu
   rcases hu with (hu | hu) | hu
   · exact k7 u (List.mem_of_mem_take hu)
   · exact h1 u hu
   · exact k7 u (List.mem_of_mem_drop hu)
theorem Fb (h : aY g U w) {t : TypeId} {p x : AV} {v u : Value} (hp : ay g p v) (hx : ay g x u) : av.Fits C g U (D1 C.P t p x U) ((do Instr.storeAt t v u; pure Next.skip : Sem Next).run C.P w) := by
 unfold D1
 split
 · rename_i bb sz b off hv
   split
   · rename_i l hb
     rintro ⟨h1, h2, h3⟩
     obtain ⟨i, d, hi, hd, _, dG⟩ := lT hv
     obtain ⟨wX, wY⟩ := uW hx h1
     simp only [ay] at hp
     obtain ⟨y, hy, rfl⟩ := hp
     obtain ⟨w', fy, hs⟩ := sW (C := C) h hb hy wX wY (by rw [h2]; exact h3)
     have hlen : u.cells.size = sz := by rw [<- pr, wX.length]; exact h2
     simp only [Instr.storeAt, Instr.sureAddr, storeVar, bK, bY, bW, dF hi, dG, hlen, ne_eq, not_true_eq_false, if_false, dT, fy]
     exact ⟨undef, w', g, .inr ⟨rfl, rfl⟩, Gh.Le.refl g, hs, by simp only [ay]; exact ⟨[], rfl, by simp [aD]⟩⟩
   · trivial
 · trivial
def Ci (t : TypeId) : List AV -> av
 | [.a7, .al] => .new .box none (.xu t [.a7, .al])
 | l => .cr l
def Ch (P : Program) (t : TypeId) : av :=
 match mY P t with
 | some l => Ci t l
 | none => .bad
theorem kI {P : Program} {t : TypeId} {l : List AV} (hz : mY P t = some l) : ∃ i z, P.info? t = some i /\ i.zero = some z /\ z.cells.toList.mapM jx = some l := by
 unfold mY at hz
 cases hi : P.info? t with
 | none => simp [hi] at hz
 | some i =>
   cases qA : i.zero with
   | none => simp [hi, qA] at hz
   | some z => simp [hi, qA] at hz; exact ⟨i, z, rfl, qA, hz⟩
theorem fe {P : Program} {t : TypeId} {i : TypeInfo} {z : Value} (hi : P.info? t = some i) (hz : i.zero = some z) (w : World) : (zeroValue t).run P w = .ok z w := by
 simp [zeroValue, typeInfo, hi, hz]
theorem xn (h : aY g U w) (e : TypeId) {l : List AV} {cur : Array Value} (hl : aD g l cur.toList) (h1 : ∀ u ∈ cur.toList, u.oneCell' = true) :
 av.Fits C g U (.cr l) (.ok (.value (.pointer (some ⟨w.heap.size, 0, none⟩))) (w.alloc (.cells cur e))) := by
 obtain ⟨b, g', hb, hle, hx, hs⟩ := h.cr e cur cur.toList [] l (by simp) hl h1
 exact ⟨_, _, g', b, rfl, hb, hle, hs, by simp only [NV.at, ay]; exact ⟨_, hx, rfl⟩⟩
theorem En (h : aY g U w) {t : TypeId} : av.Fits C g U (Ch C.P t) ((do let x <- Instr.alloc t true (.tuple #[]); pure (Next.value x) : Sem Next).run C.P w) := by
 unfold Ch
 split
 · rename_i l hz
   obtain ⟨i, z, hi, qA, hm⟩ := kI hz
   obtain ⟨h1, h2⟩ := dE (g := g) hm
   simp only [Instr.alloc, newVar, newRow, bK, bY, bW, fe hi qA, run_newObj]
   unfold Ci
   split
   · have hlen := h1.length
     obtain ⟨b, g', hb, hle, hx, hs⟩ := h.qF (.cells z.cells t) t z.cells.size (.xu t [.a7, .al]) fun g' hle hi hm => ⟨rfl, by simpa using hlen, z.cells, z.cells.toList, [], heap_alloc_new w _, rfl, by simp, h1.mono hle, h2, hi⟩
     exact ⟨_, _, g', b, rfl, hb, hle, hs, by simp only [NV.at, ay]; exact ⟨_, hx, rfl⟩⟩
   · exact xn h t h1 h2
 · trivial
def eH (v : AV) : av := .cond (v.cS = true) (.cr (ax v))
theorem H5 (h : aY g U w) {t : TypeId} {x : AV} {u : Value} (hx : ay g x u) : av.Fits C g U (eH x) ((do let y <- Instr.box t u; pure (Next.value y) : Sem Next).run C.P w) := by
 intro hl
 obtain ⟨h1, h2⟩ := uW hx hl
 simp only [Instr.box, newVar, newRow, bK, bY, bW, run_newObj]
 exact xn h t h1 h2
def bC (x : AV) : av :=
 match x with
 | .box _ _ | .cj _ | .func (.func _) _ _ => .val x
 | _ => .bad
def tu (P : Program) (s : TypeId) (p : AV) (f : Nat) : av :=
 match u3 P s f, p with
 | some o, .box b off => .val (.box b (off + o))
 | some o, .cj l => .val (.cj (l.drop o))
 | _, _ => .bad
theorem EA {P : Program} {s : TypeId} {f o : Nat} (h : u3 P s f = some o) : ∃ fs x, P.underlying s = some (.struct fs) /\ fs[f]? = some x /\ P.cellsOf x.type ≠ 0 /\ x.offset = o := by
 unfold u3 at h
 split at h
 · rename_i fs hu
   split at h
   · rename_i x hx
     split at h
     · rename_i hc; cases h; exact ⟨fs, x, hu, hx, hc, rfl⟩
     · cases h
   · cases h
 · cases h
theorem tF {aH off n : Nat} {vs : List Value} (h : jf g aH off vs) : jf g aH (off + n) (vs.drop n) := fun i u hu => by
 rw [List.getElem?_drop] at hu
 have := h (n + i) u hu
 rwa [Nat.add_assoc]
theorem yx (h : aY g U w) {s f : Nat} {p : AV} {v : Value} (hp : ay g p v) : av.Fits C g U (tu C.P s p f) ((do let x <- Instr.fieldAt s v f; pure (Next.value x) : Sem Next).run C.P w) := by
 have ix : ∀ aH off j, (⟨aH, off, none⟩ : Addr).add j = ⟨aH, off + j, none⟩ := fun aH off j => by unfold Addr.add; split <;> simp_all
 have key : ∀ (o : Nat) (aH off : Nat), u3 C.P s f = some o -> v = .pointer (some ⟨aH, off, none⟩) ->
  ((do let x <- Instr.fieldAt s v f; pure (Next.value x) : Sem Next).run C.P w) = .ok (.value (.pointer (some ⟨aH, off + o, none⟩))) w := fun o aH off ho hv => by
  obtain ⟨fs, x, hu, hx, hc, rfl⟩ := EA ho
  subst hv
  obtain ⟨i, hi, hic⟩ : ∃ i, C.P.info? x.type = some i /\ i.size = C.P.cellsOf x.type := by
   cases hi : C.P.info? x.type with
   | none => simp [Program.cellsOf, hi] at hc
   | some i => exact ⟨i, rfl, by simp [Program.cellsOf, hi]⟩
  simp only [Instr.fieldAt, bK, bY, bW, run_underlying hu, hx, Instr.sureAddr, fieldPlace, dF hi, hic, if_neg hc, dT, ix]
 unfold tu
 split
 · rename_i o b off ho
   simp only [ay] at hp
   obtain ⟨x, hx, hv⟩ := hp
   rw [key o x.aH off ho hv]
   exact aT h (by simp only [ay]; exact ⟨x, hx, rfl⟩)
 · rename_i o l ho
   simp only [ay] at hp
   obtain ⟨aH, off, vs, hv, hi, hr⟩ := hp
   rw [key o aH off ho hv]
   exact aT h (by simp only [ay]; exact ⟨aH, off + o, vs.drop o, rfl, tF hi, hr.drop o⟩)
 · trivial
theorem gg {P : Program} {t e : TypeId} {sz : Nat} (h : dU P t = some (e, sz)) :
 ∃ i z, P.underlying t = some (.slice e) /\ P.info? e = some i /\ i.zero = some z /\ z.cells.size = sz /\ i.size = sz /\ 0 < sz /\ i.bytes <= 32768 /\ (∀ u ∈ z.cells.toList, u.oneCell' = true) := by
 unfold dU at h
 split at h
 · rename_i e' hu
   split at h
   · rename_i i hi
     split at h
     · rename_i z hz
       split at h
       · rename_i hc
         simp only [gr, jz] at h
         obtain ⟨rfl, rfl⟩ := h
         refine ⟨i, z, hu, hi, hz, hc.1, rfl, hc.2.1, hc.2.2.1, fun u hu => ?_⟩
         have := hc.2.2.2
         rw [Array.all_eq_true_iff_forall_mem] at this
         exact this u (by simpa using hu)
       · cases h
     · cases h
   · cases h
 · cases h
def rP (P : Program) (t : TypeId) : Option (Nat × TypeId × Nat) :=
 match P.underlying t with
 | some (.array n e) => match P.info? e with
   | some i => some (n, e, i.size)
   | none => none
 | _ => none
theorem qW {P : Program} {t e : TypeId} {n sz : Nat} (h : rP P t = some (n, e, sz)) : ∃ i, P.underlying t = some (.array n e) /\ P.info? e = some i /\ i.size = sz := by
 unfold rP at h
 split at h
 · rename_i n' e' hu
   split at h
   · rename_i i hi
     simp only [gr, jz] at h
     obtain ⟨rfl, rfl, rfl⟩ := h
     exact ⟨i, hu, hi, rfl⟩
   · cases h
 · cases h
def HY (P : Program) (t : TypeId) (x i : AV) : av :=
 match rP P t, x, i with
 | some (n, _, sz), .cj l, .int _ j => .cond (0 <= j /\ j < n) (.val (.cj (l.drop (j.toNat * sz))))
 | some (n, _, sz), .box b off, .int _ j => .cond (0 <= j /\ j < n) (.val (.box b (off + j.toNat * sz)))
 | _, _, _ => .bad
def tG (P : Program) (t : TypeId) (x i : AV) : av :=
 match dU P t, x, i with
 | none, x, i => HY P t x i
 | some (_, sz), .vec n _ l, .int _ j => .cond (0 <= j /\ j < n) (.val (.cj (l.drop (j.toNat * sz))))
 | some (_, sz), .ms b off n gz _, .int _ j => .cond (0 <= j /\ j < n /\ gz = sz) (.val (.box b (off + j.toNat * sz)))
 | _, _, _ => .bad
theorem yS (h : aY g U w) {t : TypeId} {x y : AV} {v u : Value} (hx : ay g x v) (hy : ay g y u) : av.Fits C g U (tG C.P t x y) ((do let x <- Instr.indexAt t v u; pure (Next.value x) : Sem Next).run C.P w) := by
 have ix : ∀ aH off j, (⟨aH, off, none⟩ : Addr).add j = ⟨aH, off + j, none⟩ := fun aH off j => by unfold Addr.add; split <;> simp_all
 have key : ∀ (e : TypeId) (sz : Nat) (aH off n c : Nat) (k : IntKind) (j : Int), dU C.P t = some (e, sz) -> v = .slice (some ⟨aH, off, none⟩) n c -> u = .int k j -> 0 <= j -> j < n ->
  ((do let x <- Instr.indexAt t v u; pure (Next.value x) : Sem Next).run C.P w) = .ok (.value (.pointer (some ⟨aH, off + j.toNat * sz, none⟩))) w := fun e sz aH off n c k j ho hv hu h0 h1 => by
  obtain ⟨i, z, mj, hi, hz, _, dG, _⟩ := gg ho
  subst hv hu
  simp only [Instr.indexAt, asIntOf, bK, bY, bW, run_underlying mj, h0, h1, and_self, if_true, dT, dF hi, dG, ix]
 unfold tG
 split
 · unfold HY
   split
   · rename_i n e sz l k j ha
     rintro ⟨h0, h1⟩
     obtain ⟨i, mj, hi, dG⟩ := qW ha
     simp only [ay] at hx hy
     obtain ⟨aH, off, vs, rfl, il, hr⟩ := hx
     subst hy
     simp only [Instr.indexAt, asIntOf, bK, bY, bW, run_underlying mj, Instr.sureAddr, h0, h1, and_self, if_true, dT, dF hi, dG, ix]
     exact aT h (by simp only [ay]; exact ⟨aH, _, _, rfl, tF il, hr.drop _⟩)
   · rename_i n e sz b off k j ha
     rintro ⟨h0, h1⟩
     obtain ⟨i, mj, hi, dG⟩ := qW ha
     simp only [ay] at hx hy
     obtain ⟨x, hb, rfl⟩ := hx
     subst hy
     simp only [Instr.indexAt, asIntOf, bK, bY, bW, run_underlying mj, Instr.sureAddr, h0, h1, and_self, if_true, dT, dF hi, dG, ix]
     exact aT h (by simp only [ay]; exact ⟨x, hb, rfl⟩)
   · trivial
 · rename_i e sz n cap l k j hs
   rintro ⟨h0, h1⟩
   simp only [ay] at hx hy
   obtain ⟨aH, off, c, vs, hv, _, _, _, hi, hr⟩ := hx
   rw [key e sz aH off n c k j hs hv hy h0 h1]
   exact aT h (by simp only [ay]; exact ⟨aH, _, _, rfl, tF hi, hr.drop _⟩)
 · rename_i e sz b off n gz e' k j hs
   rintro ⟨h0, h1, rfl⟩
   simp only [ay] at hx hy
   obtain ⟨x, c, hb, hv, _⟩ := hx
   rw [key e gz x.aH off n c k j hs hv hy h0 h1]
   exact aT h (by simp only [ay]; exact ⟨x, hb, rfl⟩)
 · trivial
def kM (P : Program) (t : TypeId) : Bool := match P.underlying t with | some .string => true | _ => false
def yR (P : Program) (t : TypeId) (x i : AV) : av :=
 match x, i with
 | .str s, .int _ j => if kM P t = true then .cond (0 <= j /\ j < s.length) (.val (.int .u8 (s.getD j.toNat 0).toNat)) else .bad
 | .agg l, .int _ j => match rP P t with
   | some (n, e, sz) => match lh P e with
     | some (false, _) => .cond (0 <= j /\ j < n) (fW (l.drop (j.toNat * sz)))
     | some (true, k) => .cond (0 <= j /\ j < n /\ k = sz /\ j.toNat * sz + sz <= l.length) (.val (.agg ((l.drop (j.toNat * sz)).take sz)))
     | none => .bad
   | none => .bad
 | _, _ => .bad
theorem mK {P : Program} {t : TypeId} (h : kM P t = true) : P.underlying t = some .string := by
 unfold kM at h
 split at h
 · assumption
 · cases h
theorem EH (h : aY g U w) {t : TypeId} {x y : AV} {v u : Value} (hx : ay g x v) (hy : ay g y u) : av.Fits C g U (yR C.P t x y) ((do let x <- Instr.index t v u; pure (Next.value x) : Sem Next).run C.P w) := by
 unfold yR
 split
 · rename_i s k j
   split
   · rename_i ht
     rintro ⟨h0, h1⟩
     simp only [ay] at hx hy
     subst hx hy
     have hj : j.toNat < s.length := by omega
     have e : (ByteArray.mk s.toArray)[j.toNat]? = some (s.getD j.toNat 0) := by
      have dG : (ByteArray.mk s.toArray).size = s.length := by simp [ByteArray.size]
      rw [getElem?_pos _ _ (by rw [dG]; exact hj)]
      simp [sa, iZ hj]
      rfl
     simp only [Instr.index, asIntOf, bK, bY, bW, run_underlying (mK ht), h0, if_true, e]
     exact aT h (by simp only [ay])
   · trivial
 · rename_i l k j
   split
   · rename_i n e sz ha
     obtain ⟨i, mj, hi, dG⟩ := qW ha
     simp only [ay] at hx hy
     subst hy
     obtain ⟨vs, rfl, Iw, hr⟩ := hx
     split
     · rename_i sz' hv
       obtain ⟨i', d, il, hd, hb, _⟩ := lT hv
       rintro ⟨h0, h1⟩
       cases hl : l.drop (j.toNat * sz) with
       | nil => trivial
       | cons z zs =>
         have hz : l[j.toNat * sz]? = some z := by
          have := congrArg (fun l => l[0]?) hl
          simpa using this
         obtain ⟨u, IY, Vi⟩ := hr.get hz
         have e1 : vs.toArray[j.toNat * sz]? = some u := by simpa using IY
         simp only [Instr.index, asIntOf, bK, bY, bW, run_underlying mj, h0, h1, and_self, if_true, dT, dF hi, dG, part, jm hd, hb, bq, if_false, e1]
         exact aT h Vi
     · rename_i k' hv
       obtain ⟨i', d, il, hd, hb, hk⟩ := lT hv
       rw [hi] at il; cases il
       rintro ⟨h0, h1, rfl, h2⟩
       simp only [Instr.index, asIntOf, bK, bY, bW, run_underlying mj, h0, h1, and_self, if_true, dT, dF hi, dG, part, jm hd, hb]
       refine aT h ?_
       simp only [ay]
       refine ⟨(vs.drop (j.toNat * k')).take k', ?_, fun u hu => Iw u (List.mem_of_mem_drop (List.mem_of_mem_take hu)), (hr.drop _).take _⟩
       congr 1
       apply Array.ext'
       simp [List.extract_eq_take_drop]
     · trivial
   · trivial
 · trivial
end
end Go.Rip
namespace Go.Rip
open Go.RowKit
section
variable {C : cu} {g : Gh} {U : St} {w : World}
theorem oe {P : Program} {d : Nat} : ∀ (fs : List Field) (i : Nat) (ks : List FK) (xs ys : List AV) (us vs : Array Value) (r : Bool), sA P fs i = some ks -> mi ks xs ys = some r ->
 aD g xs (us.toList.drop i) -> aD g ys (vs.toList.drop i) -> (Op.eqFields (d + 1) us vs fs).run P w = .ok r w
 | [], i, ks, xs, ys, us, vs, r, hk, he, _, _ => by
   simp only [sA, gr] at hk
   subst hk
   cases xs <;> cases ys <;> simp only [mi, reduceCtorEq, gr] at he
   subst he
   simp [Op.eqFields]
 | f :: fs, i, ks, xs, ys, us, vs, r, hk, he, hx, hy => by
   simp only [sA] at hk
   split at hk
   · rename_i k ks' hf II
     simp only [gr] at hk
     subst hk
     unfold Ip at hf
     split at hf
     · rename_i hc
       obtain ⟨ho, hn⟩ := hc
       have PX : ∀ (us : Array Value) (u : Value), us[i]? = some u -> ∀ dd, P.underlying f.type = some dd -> zE dd = false -> (part f.type us f.offset).run P w = .ok u w := fun us u hu dd hd ha => by
        simp only [part, bK, jm hd, bW, ha, bq, if_false, ho, hu, bY, dT]
       have lY : ∀ {xs : List AV} {x : AV} {us : Array Value}, aD g (x :: xs) (us.toList.drop i) -> ∃ u, us[i]? = some u /\ ay g x u /\ aD g xs (us.toList.drop (i + 1)) := fun {xs x us} h => by
        simp only [aD] at h
        obtain ⟨u, rest, e, h1, h2⟩ := h
        refine ⟨u, ?_, h1, ?_⟩
        · have := congrArg (fun l => l[0]?) e
          simpa using this
        · have := congrArg (List.drop 1) e
          rw [List.drop_drop] at this
          rw [this]; simpa using h2
       have vi : ∀ (u v : Value) (q r' : Bool) (dd : TypeDesc), us[i]? = some u -> vs[i]? = some v -> P.underlying f.type = some dd -> zE dd = false -> (Op.equalIn (d + 1) f.type u v).run P w = .ok q w ->
        (Op.eqFields (d + 1) us vs fs).run P w = .ok r' w -> (Op.eqFields (d + 1) us vs (f :: fs)).run P w = .ok (q && r') w := fun u v q r' dd hu hv hd ha heq aan => by
        simp only [Op.eqFields, if_pos hn, bK, PX us u hu dd hd ha, PX vs v hv dd hd ha, bW, heq, dT, bY, aan]
        cases q <;> simp
       split at hf
       · rename_i hd
         cases hf
         cases xs with
         | nil => simp [mi] at he
         | cons x xs =>
           cases ys with
           | nil => cases x <;> simp [mi] at he
           | cons y ys =>
             cases x <;> cases y <;> simp only [mi, reduceCtorEq] at he
             cases hr : mi ks' xs ys with
             | none => simp [hr] at he
             | some r' =>
               simp [hr] at he
               subst he
               obtain ⟨u, hu, A7, ia⟩ := lY hx
               obtain ⟨v, hv, A8, I7⟩ := lY hy
               simp only [ay] at A7 A8
               subst A7 A8
               have := vi _ _ _ r' _ hu hv hd rfl (run_equalIn_bool' w d f.type _ _ hd) (oe fs (i + 1) ks' xs ys us vs r' II hr ia I7)
               rw [this]
       · rename_i kk hd
         cases hf
         cases xs with
         | nil => simp [mi] at he
         | cons x xs =>
           cases ys with
           | nil => cases x <;> simp [mi] at he
           | cons y ys =>
             cases x <;> cases y <;> simp only [mi, reduceCtorEq] at he
             split at he
             · rename_i e; subst e
               cases hr : mi ks' xs ys with
               | none => simp [hr] at he
               | some r' =>
                 simp [hr] at he
                 subst he
                 obtain ⟨u, hu, A7, ia⟩ := lY hx
                 obtain ⟨v, hv, A8, I7⟩ := lY hy
                 simp only [ay] at A7 A8
                 subst A7 A8
                 have := vi _ _ _ r' _ hu hv hd rfl (run_equalIn_int w d f.type _ _ _ _ hd) (oe fs (i + 1) ks' xs ys us vs r' II hr ia I7)
                 rw [this]
             · cases he
       · rename_i hd
         cases hf
         cases xs with
         | nil => simp [mi] at he
         | cons x xs =>
           cases ys with
           | nil => cases x <;> simp [mi] at he
           | cons y ys =>
             cases x <;> cases y <;> simp only [mi, reduceCtorEq] at he
             cases hr : mi ks' xs ys with
             | none => simp [hr] at he
             | some r' =>
               simp [hr] at he
               subst he
               obtain ⟨u, hu, A7, ia⟩ := lY hx
               obtain ⟨v, hv, A8, I7⟩ := lY hy
               simp only [ay] at A7 A8
               subst A7 A8
               have := vi _ _ _ r' _ hu hv hd rfl (run_equalIn_string w d f.type _ _ hd) (oe fs (i + 1) ks' xs ys us vs r' II hr ia I7)
               rw [this]
               simp [ByteArray.toList_eq]
       · cases hf
     · cases hf
   · cases hk
theorem zi {P : Program} {t : TypeId} {a b : List AV} {us vs : List Value} {r : Bool} (h : Fq P t a b = some r) (ha : aD g a us) (hb : aD g b vs) :
 (Op.equalIn 10000 t (.agg us.toArray) (.agg vs.toArray)).run P w = .ok r w /\ P.eqGuardType P.depth t = false := by
 unfold Fq at h
 split at h
 · rename_i ks gL
   unfold GL at gL
   split at gL
   · rename_i fs hu
     split at gL
     · rename_i hc
       have YQ : P.fieldsOf t = fs := by simp [Program.fieldsOf, hu]
       refine ⟨?_, hc.2⟩
       rw [run_equalIn_struct w 9999 t _ _ (by rw [YQ]; exact hu) hc.1, YQ]
       exact oe (d := 9998) fs.toList 0 ks a b _ _ r gL h (by simpa using ha) (by simpa using hb)
     · cases gL
   · cases gL
 · cases h
theorem pG {P : Program} (w : World) (d : Nat) (t : TypeId) (ms : Array (String × TypeId)) (h : P.underlying t = some (.interface ms)) (a : TypeId) (b : Value) : (Op.equalIn (d + 1) t (.iface a b) .nilIface).run P w = .ok false w := by
 simp [Op.equalIn, run_underlying h]
theorem gU {P : Program} (w : World) (d : Nat) (t e : TypeId) (h : P.underlying t = some (.pointer e)) (a : Option Addr) : (Op.equalIn (d + 1) t (.pointer a) (.pointer none)).run P w = .ok a.isNone w := by
 cases a <;> simp [Op.equalIn, run_underlying h]
theorem lN {P : Program} (w : World) (d : Nat) (t e : TypeId) (h : P.underlying t = some (.slice e)) (a : Option Addr) (n c : Nat) : (Op.equalIn (d + 1) t (.slice a n c) (.slice none 0 0)).run P w = .ok a.isNone w := by
 cases a <;> simp [Op.equalIn, run_underlying h]
theorem og {P : Program} (w : World) (d : Nat) (t : TypeId) (ms : Array (String × TypeId)) (h : P.underlying t = some (.interface ms)) : (Op.equalIn (d + 1) t .nilIface .nilIface).run P w = .ok true w := by
 simp [Op.equalIn, run_underlying h]
theorem H2 (h : aY g U w) {op : BinOp} {t : TypeId} {x y : AV} {u v : Value} (X Y : Operand) (hx : ay g x u) (hy : ay g y v) :
 av.Fits C g U (Gv C.P op t x y) ((do let r <- (do eqGuard op t X Y u v; binOp op t u v : Sem Value); pure (Next.value r) : Sem Next).run C.P w) := by
 have hI : ∀ (k : IntKind) (n : Int), av.Fits C g U (gk k n) (.ok (.value (.int k (k.wrap n))) w) := fun k n => by
  unfold gk
  split
  · intro hi
    rw [uv hi]
    exact aT h (by simp only [ay])
  · exact aT h (by simp only [ay])
 unfold Gv
 split
 all_goals first
  | trivial
  | skip
 all_goals simp only [ay] at hx hy
 all_goals first
  | (subst hx hy
     split
     · rename_i e; subst e
       first
        | (simp only [eqGuard, binOp, ne_eq, not_true_eq_false, if_false, Op.intArith, Op.intCmp, Op.intBits, bK, bY, bW, Bool.not_eq_true', Bool.true_eq_false, bV, da, bq, if_true, dT]
           first
            | exact hI _ _
            | exact aT h (by simp only [ay]))
        | (intro hb
           simp only [eqGuard, binOp, ne_eq, not_true_eq_false, if_false, Op.intDiv, if_neg hb, bK, bY, bW, Bool.not_eq_true', Bool.true_eq_false, bV, da, bq, if_true, dT]
           first
            | exact hI _ _
            | exact aT h (by simp only [ay]))
     · trivial)
  | skip
 · subst hx hy
   simp only [eqGuard, binOp, Op.stringOp, bK, bY, bW, bV, bq, if_false, dT, ByteArray.toList_eq, List.toList_toArray]
   exact aT h (by simp only [ay])
 · subst hx hy
   simp only [eqGuard, binOp, Op.stringOp, bK, bY, bW, bV, bq, if_false, dT, ByteArray.toList_eq, List.toList_toArray]
   exact aT h (by simp only [ay]; rfl)
 · subst hx hy
   rename_i a b
   intro hle
   have h1 : ¬ (((ByteArray.mk a.toArray).size + (ByteArray.mk b.toArray).size : Nat) : Int) > IntKind.i64.max := by
    have e1 : (ByteArray.mk a.toArray).size = a.length := by simp [ByteArray.size]
    have e2 : (ByteArray.mk b.toArray).size = b.length := by simp [ByteArray.size]
    have e3 : IntKind.i64.max = 9223372036854775807 := by simp [IntKind.max, IntKind.signed, IntKind.bits]
    rw [e1, e2, e3]; omega
   have h2 : (ByteArray.mk a.toArray) ++ (ByteArray.mk b.toArray) = ByteArray.mk (a ++ b).toArray := by
    apply ByteArray.ext
    simp
   simp only [eqGuard, binOp, Op.stringOp, bK, bY, bW, if_neg h1, dT, bV, da, bq, if_true, if_false, h2]
   exact aT h (by simp only [ay])
 · subst hx hy
   split
   · rename_i ht
     have hu : C.P.underlying t = some .bool := by unfold sP at ht; split at ht <;> simp_all
     have hr := run_equalIn_bool' (P := C.P) w 9999 t
     simp only [eqGuard, binOp, Op.equal, Op.maxDepth, bK, bY, bW, hr _ _ hu, bV, bq, if_false, dT]
     exact aT h (by simp only [ay])
   · trivial
 · subst hx hy
   split
   · rename_i ht
     have hu : C.P.underlying t = some .bool := by unfold sP at ht; split at ht <;> simp_all
     have hr := run_equalIn_bool' (P := C.P) w 9999 t
     simp only [eqGuard, binOp, Op.equal, Op.maxDepth, bK, bY, bW, hr _ _ hu, bV, bq, if_false, dT]
     exact aT h (by simp only [ay]; rfl)
   · trivial
 · rename_i a b
   obtain ⟨us, rfl, _, ha⟩ := hx
   obtain ⟨vs, rfl, _, hb⟩ := hy
   cases he : Fq C.P t a b with
   | none => trivial
   | some r =>
     obtain ⟨h1, h2⟩ := zi (w := w) he ha hb
     simp only [so, bK, run_eqGuard_agg w _ _ _ _ _ _ h2, bW, run_eql_struct, h1, bY]
     exact aT h (by simp only [ay])
 · rename_i a b
   obtain ⟨us, rfl, _, ha⟩ := hx
   obtain ⟨vs, rfl, _, hb⟩ := hy
   cases he : Fq C.P t a b with
   | none => trivial
   | some r =>
     obtain ⟨h1, h2⟩ := zi (w := w) he ha hb
     simp only [so, bK, run_eqGuard_agg w _ _ _ _ _ _ h2, bW, run_neq_struct, h1, bY]
     exact aT h (by simp only [ay])
 · obtain ⟨u', rfl, _⟩ := hx
   subst hy
   split
   · rename_i ht
     obtain ⟨ms, hu⟩ : ∃ ms, C.P.underlying t = some (.interface ms) := by unfold iz at ht; split at ht <;> simp_all
     have hr := pG (P := C.P) w 9999 t ms hu
     simp only [eqGuard, binOp, Op.equal, Op.maxDepth, hr, bK, bY, bW, bV, bq, if_false, dT]
     exact aT h (by simp only [ay])
   · trivial
 · obtain ⟨u', rfl, _⟩ := hx
   subst hy
   split
   · rename_i ht
     obtain ⟨ms, hu⟩ : ∃ ms, C.P.underlying t = some (.interface ms) := by unfold iz at ht; split at ht <;> simp_all
     have hr := pG (P := C.P) w 9999 t ms hu
     simp only [eqGuard, binOp, Op.equal, Op.maxDepth, hr, bK, bY, bW, bV, da, bq, if_false, dT]
     exact aT h (by simp only [ay])
   · trivial
 · subst hx hy
   split
   · rename_i ht
     obtain ⟨ms, hu⟩ : ∃ ms, C.P.underlying t = some (.pointer ms) := by unfold jR at ht; split at ht <;> simp_all
     have hr := gU (P := C.P) w 9999 t ms hu
     simp only [eqGuard, binOp, Op.equal, Op.maxDepth, hr, bK, bY, bW, Option.isNone_none, bV, da, bq, if_false, dT]
     exact aT h (by simp [ay])
   · trivial
 · obtain ⟨x, _, rfl⟩ := hx
   subst hy
   split
   · rename_i ht
     obtain ⟨ms, hu⟩ : ∃ ms, C.P.underlying t = some (.pointer ms) := by unfold jR at ht; split at ht <;> simp_all
     have hr := gU (P := C.P) w 9999 t ms hu
     simp only [eqGuard, binOp, Op.equal, Op.maxDepth, hr, bK, bY, bW, Option.isNone_none, bV, da, bq, if_false, dT]
     exact aT h (by simp [ay])
   · trivial
 · subst hx hy
   split
   · rename_i ht
     obtain ⟨ms, hu⟩ : ∃ ms, C.P.underlying t = some (.pointer ms) := by unfold jR at ht; split at ht <;> simp_all
     have hr := gU (P := C.P) w 9999 t ms hu
     simp only [eqGuard, binOp, Op.equal, Op.maxDepth, hr, bK, bY, bW, Option.isNone_none, bV, da, bq, if_false, dT]
     exact aT h (by simp [ay])
   · trivial
 · obtain ⟨x, _, rfl⟩ := hx
   subst hy
   split
   · rename_i ht
     obtain ⟨ms, hu⟩ : ∃ ms, C.P.underlying t = some (.pointer ms) := by unfold jR at ht; split at ht <;> simp_all
     have hr := gU (P := C.P) w 9999 t ms hu
     simp only [eqGuard, binOp, Op.equal, Op.maxDepth, hr, bK, bY, bW, Option.isNone_none, bV, da, bq, if_false, dT]
     exact aT h (by simp [ay])
   · trivial
 · obtain ⟨_, _, _, rfl, _⟩ := hx
   subst hy
   split
   · rename_i ht
     obtain ⟨ms, hu⟩ : ∃ ms, C.P.underlying t = some (.pointer ms) := by unfold jR at ht; split at ht <;> simp_all
     have hr := gU (P := C.P) w 9999 t ms hu
     simp only [eqGuard, binOp, Op.equal, Op.maxDepth, hr, bK, bY, bW, Option.isNone_none, bV, da, bq, if_false, dT]
     exact aT h (by simp [ay])
   · trivial
 · obtain ⟨_, _, _, rfl, _⟩ := hx
   subst hy
   split
   · rename_i ht
     obtain ⟨ms, hu⟩ : ∃ ms, C.P.underlying t = some (.pointer ms) := by unfold jR at ht; split at ht <;> simp_all
     have hr := gU (P := C.P) w 9999 t ms hu
     simp only [eqGuard, binOp, Op.equal, Op.maxDepth, hr, bK, bY, bW, Option.isNone_none, bV, da, bq, if_false, dT]
     exact aT h (by simp [ay])
   · trivial
 · subst hx
   subst hy
   split
   · rename_i ht
     obtain ⟨ms, hu⟩ : ∃ ms, C.P.underlying t = some (.slice ms) := by unfold nf at ht; split at ht <;> simp_all
     have hr := lN (P := C.P) w 9999 t ms hu
     simp only [eqGuard, binOp, Op.equal, Op.maxDepth, hr, bK, bY, bW, Option.isNone_none, Option.isNone_some, bV, da, bq, if_false, dT]
     exact aT h (by simp [ay])
   · trivial
 · obtain ⟨_, _, _, _, rfl, _⟩ := hx
   subst hy
   split
   · rename_i ht
     obtain ⟨ms, hu⟩ : ∃ ms, C.P.underlying t = some (.slice ms) := by unfold nf at ht; split at ht <;> simp_all
     have hr := lN (P := C.P) w 9999 t ms hu
     simp only [eqGuard, binOp, Op.equal, Op.maxDepth, hr, bK, bY, bW, Option.isNone_none, Option.isNone_some, bV, da, bq, if_false, dT]
     exact aT h (by simp [ay])
   · trivial
 · obtain ⟨_, _, _, rfl, _⟩ := hx
   subst hy
   split
   · rename_i ht
     obtain ⟨ms, hu⟩ : ∃ ms, C.P.underlying t = some (.slice ms) := by unfold nf at ht; split at ht <;> simp_all
     have hr := lN (P := C.P) w 9999 t ms hu
     simp only [eqGuard, binOp, Op.equal, Op.maxDepth, hr, bK, bY, bW, Option.isNone_none, Option.isNone_some, bV, da, bq, if_false, dT]
     exact aT h (by simp [ay])
   · trivial
theorem H3 (h : aY g U w) {op : BinOp} {t : TypeId} {x y : AV} {u v : Value} (X Y : Operand) (hx : ay g x u) (hy : ay g y v) :
 av.Fits C g U (Cq C.P op t (isLit X || isLit Y) x y) ((do let r <- (do eqGuard op t X Y u v; binOp op t u v : Sem Value); pure (Next.value r) : Sem Next).run C.P w) := by
 have key : ∀ (op : BinOp), (op = .eql \/ op = .neq) -> iz C.P t = true -> (isLit X || isLit Y) = true -> (eqGuard op t X Y .nilIface .nilIface).run C.P w = .ok () w := fun op hop ht hl => by
  obtain ⟨ms, hu⟩ : ∃ ms, C.P.underlying t = some (.interface ms) := by unfold iz at ht; split at ht <;> simp_all
  rcases hop with rfl | rfl <;> cases X <;> cases Y <;> simp [isLit] at hl <;> simp [eqGuard]
 unfold Cq
 split
 · simp only [ay] at hx hy
   subst hx hy
   split
   · rename_i ht
     obtain ⟨ms, hu⟩ : ∃ ms, C.P.underlying t = some (.interface ms) := by have ht := ht.1; unfold iz at ht; split at ht <;> simp_all
     have hr := og (P := C.P) w 9999 t ms hu
     simp only [bK, key _ (.inl rfl) ht.1 ht.2, binOp, Op.equal, Op.maxDepth, hr, bY, bW, bV, da, bq, if_false, dT]
     exact aT h (by simp [ay])
   · trivial
 · simp only [ay] at hx hy
   subst hx hy
   split
   · rename_i ht
     obtain ⟨ms, hu⟩ : ∃ ms, C.P.underlying t = some (.interface ms) := by have ht := ht.1; unfold iz at ht; split at ht <;> simp_all
     have hr := og (P := C.P) w 9999 t ms hu
     simp only [bK, key _ (.inr rfl) ht.1 ht.2, binOp, Op.equal, Op.maxDepth, hr, bY, bW, bV, da, bq, if_false, dT]
     exact aT h (by simp [ay])
   · trivial
 · exact H2 h X Y hx hy
end
end Go.Rip
namespace Go.Rip
open Go.RowKit
section
variable {C : cu} {g : Gh} {U : St} {w : World}
def Gt (P : Program) (t u : TypeId) : Option (TypeId × Nat) :=
 match P.underlying u with
 | some (.slice _) => dU P t
 | some .string => match dU P t with
   | some (e, 1) => some (e, 1)
   | _ => none
 | _ => none
def px (U : St) : AV -> Option (Nat × List AV)
 | .vec m _ l => some (m, l)
 | .al => some (0, [])
 | .ms b off m gz _ => match U.box b with
   | some l => some (m, (l.drop off).take (m * gz))
   | none => none
 | .str s => some (s.length, s.map fun b => .int .u8 b.toNat)
 | _ => none
def zG (P : Program) (t u : TypeId) (mu : Bool) (s y : AV) (U : St) : av :=
 match Gt P t u, px U y with
 | some (e, sz), some (m, l2) =>
   .cond (l2.length = m * sz) (match s with
   | .al => if m = 0 then .val .al else .cond (m <= 4294967296) (if mu then .lZ m sz e none l2 else .kO m l2 none ⟨m, e, sz⟩)
   | .vec n .full l => if m = 0 then .val s else .cond (l.length = n * sz /\ n + m <= 4294967296) (.kO (n + m) (l ++ l2) none ⟨n + m, e, sz⟩)
   | .vec n (.own τ) l => .cond (U.tok τ = some ⟨n, e, sz⟩ /\ l.length = n * sz /\ n + m <= 4294967296) (.kO (n + m) (l ++ l2) (some τ) ⟨n + m, e, sz⟩)
   | .ms b off n gz e' => match U.box b with
     | some l => .cond (off = 0 /\ gz = sz /\ e' = e /\ n * sz <= l.length /\ n + m <= 4294967296) (.lZ (n + m) sz e (some b) (l.take (n * sz) ++ l2))
     | none => .bad
   | _ => .bad)
 | _, _ => .bad
theorem HX {P : Program} {t u e : TypeId} {sz : Nat} (h : Gt P t u = some (e, sz)) : dU P t = some (e, sz) /\ ∃ d, P.underlying u = some d /\ ((∃ x, d = .slice x) \/ d = .string) := by
 unfold Gt at h
 split at h
 · rename_i x hx; exact ⟨h, _, hx, .inl ⟨x, rfl⟩⟩
 · rename_i hx
   split at h
   · rename_i e' he
     simp only [gr, jz] at h
     obtain ⟨rfl, rfl⟩ := h
     exact ⟨he, _, hx, .inr rfl⟩
   · cases h
 · cases h
theorem ME (h : aY g U w) {y : AV} {v : Value} (hy : ay g y v) {m : Nat} {l2 : List AV} (hs : px U y = some (m, l2)) {sz : Nat} (hl : l2.length = m * sz) :
 (∀ W, (Builtin.lenOf v).run C.P W = .ok m W) /\ ∃ us : List Value, aD g l2 us /\ (∀ u ∈ us, u.oneCell' = true) /\ ∀ W : World, W.heap = w.heap -> (Builtin.firstCells sz m v).run C.P W = .ok us.toArray W := by
 have ix : ∀ aH off j, (⟨aH, off, none⟩ : Addr).add j = ⟨aH, off + j, none⟩ := fun aH off j => by unfold Addr.add; split <;> simp_all
 have mV : ∀ (W : World) a, W.heap = w.heap -> W.cell? a = w.cell? a := fun W a hW => by simp [World.cell?, hW]
 have read : ∀ (aH off c : Nat) (us : List Value), us.length = m * sz -> (∀ j u, us[j]? = some u -> w.cell? ⟨aH, off + j, none⟩ = some u) -> ∀ W : World, W.heap = w.heap ->
  (Builtin.firstCells sz m (.slice (some ⟨aH, off, none⟩) m c)).run C.P W = .ok us.toArray W := fun aH off c us hlen hc W hW => by
  exact run_firstCells_some W sz m ⟨aH, off, none⟩ m c us hlen (fun j u hu => by rw [ix, mV W _ hW]; exact hc j u hu)
 cases y <;> simp only [px, reduceCtorEq, gr, jz] at hs
 · rename_i s
   obtain ⟨rfl, rfl⟩ := hs
   simp only [ay] at hy
   subst hy
   have dG : (ByteArray.mk s.toArray).size = s.length := by simp [ByteArray.size]
   refine ⟨fun W => by simp [Builtin.lenOf, dG], s.map (fun b => Value.int .u8 b.toNat), ?_, by simp [Value.oneCell'], fun W _ => ?_⟩
   · refine aD.y7 (by simp) fun i x u hx hu => ?_
     simp only [kB, mA] at hx hu
     obtain ⟨b, hb, rfl⟩ := hx
     obtain ⟨b', dQ, rfl⟩ := hu
     rw [hb] at dQ; cases dQ
     simp only [ay]
   · simp only [Builtin.firstCells, bY]
     congr 1
     apply Array.ext'
     simp
 · obtain ⟨rfl, rfl⟩ := hs
   simp only [ay] at hy
   subst hy
   exact ⟨fun W => by simp [Builtin.lenOf], [], by simp [aD], by simp, fun W _ => by simp [Builtin.firstCells]⟩
 · rename_i n cap l
   obtain ⟨rfl, rfl⟩ := hs
   simp only [ay] at hy
   obtain ⟨aH, off, c, vs, rfl, _, _, _, hi, hr⟩ := hy
   exact ⟨fun W => by simp [Builtin.lenOf], vs, hr, fun u hu => by
    obtain ⟨j, hj⟩ := List.getElem?_of_mem hu
    exact (h.bM _ _ _ (hi j u hj)).2, read aH off c vs (by rw [hr.length, hl]) fun j u hu => (h.bM _ _ _ (hi j u hu)).1⟩
 · rename_i b off n gz e'
   split at hs
   · rename_i l hb
     simp only [gr, jz] at hs
     obtain ⟨rfl, rfl⟩ := hs
     simp only [ay] at hy
     obtain ⟨x, c, hx, rfl, _, _, _, _⟩ := hy
     obtain ⟨a, vs, hv, ha, hr, hc⟩ := oW h (p := .box b off) (v := .pointer (some ⟨x.aH, off, none⟩)) (l := l.drop off) (by simp only [ay]; exact ⟨x, hx, rfl⟩) (by simp [jL, hb])
     cases hv
     refine ⟨fun W => by simp [Builtin.lenOf], vs.take (n * gz), hr.take _, fun u hu => ?_, read x.aH off c _ (by rw [(hr.take _).length, hl]) fun j u hu => ?_⟩
     · obtain ⟨j, hj⟩ := List.getElem?_of_mem hu
       rw [List.getElem?_take] at hj
       split at hj
       · exact (hc j u hj).2
       · cases hj
     · rw [List.getElem?_take] at hu
       split at hu
       · have := (hc j u hu).1; rwa [ix] at this
       · cases hu
   · cases hs
theorem mc {P : Program} {w : World} {t u ty e : TypeId} {i : TypeInfo} {d : TypeDesc} (ht : P.underlying t = some (.slice e)) (hu : P.underlying u = some d) (hd : (∃ x, d = .slice x) \/ d = .string) (hi : P.info? e = some i)
 {base : Option Addr} {n c m : Nat} {v : Value} {us : List Value} (hm : ∀ W, (Builtin.lenOf v).run P W = .ok m W) (hf : (Builtin.firstCells i.size m v).run P w = .ok us.toArray w) (mW : n + m <= c) :
 (Builtin.append_ #[t, u] ty #[.slice base n c, v]).run P w = match base with
   | some a => ((storeCells (a.add (n * i.size)) us).run P w).andThen fun _ w' => .ok (.slice base (n + m) c) w'
   | none => .ok (.slice base (n + m) c) w := by
 rcases hd with ⟨x, rfl⟩ | rfl <;> cases base <;>
  simp [Builtin.append_, run_underlying ht, run_underlying hu, sizeOf, typeInfo, hi, hm, mW, hf]
theorem Ah {P : Program} {w : World} {t u ty e : TypeId} {i : TypeInfo} {z : Value} {d : TypeDesc} (ht : P.underlying t = some (.slice e)) (hu : P.underlying u = some d) (hd : (∃ x, d = .slice x) \/ d = .string) (hi : P.info? e = some i) (hz : i.zero = some z) (yE : i.bytes <= 32768)
 {base : Option Addr} {n c m : Nat} {v : Value} {vF us : List Value} (hm : ∀ W, (Builtin.lenOf v).run P W = .ok m W) (hf : ∀ W : World, W.heap = w.heap -> (Builtin.firstCells i.size m v).run P W = .ok us.toArray W)
 (ho : ∀ W : World, W.heap = w.heap -> (Builtin.firstCells i.size n (.slice base n c)).run P W = .ok vF.toArray W) (abn : c < n + m) (kK : n + m <= 4294967296) :
 (Builtin.append_ #[t, u] ty #[.slice base n c, v]).run P w =
   .ok (.slice (some ⟨w.heap.size, 0, none⟩) (n + m) (grownCap w (n + m) c e))
    (w.drew.alloc (.cells (vF.toArray ++ us.toArray ++ Builtin.zeroCells z.cells (grownCap w (n + m) c e - (n + m))) e)) := by
 have mW : ¬ (n + m <= c) := by omega
 have NJ : ¬ (9223372036854775807 < ((n : Int) + (m : Int))) := by omega
 have gK : (n + m) * i.bytes <= 140737488355328 := Nat.le_trans (Nat.mul_le_mul kK yE) (by omega)
 have AQ := growslice_fits (old := c) (need := n + m) (bytes := i.bytes) (by omega) gK
 have NI : ¬ (281474976710656 < Builtin.nextslicecap (n + m) c * i.bytes) := by omega
 have hf' := hf w.drew rfl
 have PU := ho w.drew rfl
 rcases hd with ⟨x, rfl⟩ | rfl <;>
 · simp [Builtin.append_, run_underlying ht, run_underlying hu, sizeOf, typeInfo, zeroValue, hi, hz, hm, mW, NJ, NI, Question.forced, hf', PU, newRow, grownCap]
   congr 2
   apply Array.ext'
   simp [pw]
theorem St.Fo (U : St) (d : Option Nat) : St.Le (U.pn d) U := by
 cases d with
 | none => exact St.Le.refl U
 | some b => exact St.ql U b
theorem mG {w : World} (h : aY g U w) {del : Option Nat} {e : TypeId} {sz n c : Nat} {l : List AV} {vs rest : List Value} (hr : aD g l vs) (h1 : ∀ u ∈ vs, u.oneCell' = true) (h2 : ∀ u ∈ rest, u.oneCell' = true)
 (hl : l.length = n * sz) (hc : vs.length + rest.length = c * sz) (hn : n <= c) (sF : c <= maxLen) :
 av.Fits C g U (.kO n l del ⟨n, e, sz⟩) (.ok (.value (.slice (some ⟨w.heap.size, 0, none⟩) n c)) (w.alloc (.cells (vs ++ rest).toArray e))) := by
 obtain ⟨τ, g', h3, hle, h4, h5, h6⟩ := (h.weaken (St.Fo U del)).kO e sz n c (vs ++ rest).toArray vs rest (by simp) (by
  intro u hu
  simp only [fC] at hu
  rcases hu with hu | hu
  · exact h1 u hu
  · exact h2 u hu) (by rw [hr.length, hl]) (by simp [hc]) hn sF
 refine ⟨_, _, g', τ, rfl, h3, hle, h6, ?_⟩
 simp only [NV.at, ay]
 exact ⟨w.heap.size, 0, c, vs, rfl, hn, sF, ⟨rfl, h4⟩, h5, hr.mono hle⟩
theorem nR {w : World} (h : aY g U w) {del : Option Nat} {e : TypeId} {sz n c : Nat} {l : List AV} {vs rest : List Value} (hr : aD g l vs) (h1 : ∀ u ∈ vs, u.oneCell' = true) (h2 : ∀ u ∈ rest, u.oneCell' = true)
 (hc : vs.length + rest.length = c * sz) (hn : n <= c) (sF : c <= maxLen) :
 av.Fits C g U (.lZ n sz e del l) (.ok (.value (.slice (some ⟨w.heap.size, 0, none⟩) n c)) (w.alloc (.cells (vs ++ rest).toArray e))) := by
 obtain ⟨b, g', h3, hle, h4, h6⟩ := (h.weaken (St.Fo U del)).cr e (vs ++ rest).toArray vs rest l (by simp) hr (by
  intro u hu
  simp only [fC] at hu
  rcases hu with hu | hu
  · exact h1 u hu
  · exact h2 u hu)
 refine ⟨_, _, g', b, rfl, h3, hle, h6, ?_⟩
 simp only [NV.at, ay]
 exact ⟨_, c, h4, rfl, hn, sF, by simp [hc], rfl⟩
theorem jI {z : Array Value} (hz : ∀ u ∈ z.toList, u.oneCell' = true) (n : Nat) (hp : 0 < z.size) : ∀ u ∈ (Builtin.zeroCells z n).toList, u.oneCell' = true := by
 intro u hu
 simp only [Builtin.zeroCells, Array.toList_map, List.mem_map] at hu
 obtain ⟨i, _, rfl⟩ := hu
 have aJ : i % z.size < z.size := Nat.mod_lt _ hp
 rw [getElem!_pos z _ aJ]
 exact hz _ (by simp)
theorem Cj (h : aY g U w) {t u ty : TypeId} {mu : Bool} {s y : AV} {v v2 : Value} (hs : ay g s v) (hy : ay g y v2) :
 av.Fits C g U (zG C.P t u mu s y U) ((do let r <- Builtin.append_ #[t, u] ty #[v, v2]; pure (Next.value r) : Sem Next).run C.P w) := by
 have ix : ∀ aH off j, (⟨aH, off, none⟩ : Addr).add j = ⟨aH, off + j, none⟩ := fun aH off j => by unfold Addr.add; split <;> simp_all
 unfold zG
 split
 · rename_i e sz m l2 hap G2
   intro qu
   obtain ⟨pD, d, hu, hd⟩ := HX hap
   obtain ⟨i, z, ht, hi, hz, sK, rfl, oD, yE, Zo⟩ := gg pD
   obtain ⟨hm, us, qz, u9, hf⟩ := ME (C := C) h hy G2 qu
   have IZ : us.length = m * i.size := by rw [qz.length, qu]
   have grow : ∀ (base : Option Addr) (n c : Nat) (vF : List Value), (∀ W : World, W.heap = w.heap -> (Builtin.firstCells i.size n (.slice base n c)).run C.P W = .ok vF.toArray W) -> vF.length = n * i.size -> c < n + m -> n + m <= 4294967296 ->
    ∃ cap rest, n + m <= cap /\ cap <= maxLen /\ (∀ u ∈ rest, u.oneCell' = true) /\ (vF ++ us).length + rest.length = cap * i.size /\
    (Builtin.append_ #[t, u] ty #[.slice base n c, v2]).run C.P w = .ok (.slice (some ⟨w.drew.heap.size, 0, none⟩) (n + m) cap) (w.drew.alloc (.cells ((vF ++ us) ++ rest).toArray e)) := fun base n c vF ho C0 aJ kK => by
    have fZ := grownCap_ge w (n + m) c e
    have hle := grownCap_le_maxLen w (n + m) c e (by unfold maxLen; omega)
    refine ⟨grownCap w (n + m) c e, (Builtin.zeroCells z.cells (grownCap w (n + m) c e - (n + m))).toList, fZ, hle, jI Zo _ (by omega), ?_, ?_⟩
    · rw [fX, C0, IZ, pr, size_zeroCells, sK, <- Nat.add_mul, <- Nat.add_mul]
      congr 1; omega
    · rw [Ah ht hu hd hi hz yE hm hf ho aJ kK]
      congr 3
      simp
   split
   · simp only [ay] at hs
     subst hs
     split
     · rename_i h0
       subst h0
       rw [bK, mc ht hu hd hi hm (hf w rfl) (by omega)]
       exact aT h (by simp only [ay])
     · rename_i h0
       intro kK
       obtain ⟨cap, rest, h1, h2, h3, h4, h5⟩ := grow none 0 0 [] (fun W _ => by simp [Builtin.firstCells]) (by simp) (by omega) (by omega)
       rw [bK, h5]
       have dA := h.grow (iw w)
       simp only [ck, jA] at h1 h4 h5 ⊢
       split
       · exact nR dA qz u9 h3 h4 h1 h2
       · exact mG dA qz u9 h3 qu h4 h1 h2
   · rename_i n l
     have ri := hs
     simp only [ay] at hs
     obtain ⟨aH, off, c, vs, rfl, AX, sF, vd, k9, hr⟩ := hs
     simp only [nN] at vd
     subst vd
     split
     · rename_i h0
       subst h0
       rw [bK, mc ht hu hd hi hm (hf w rfl) (by omega)]
       have aat : us = [] := List.eq_nil_of_length_eq_zero (by simpa using IZ)
       subst aat
       simp only [storeCells, bY, bW, Nat.add_zero]
       exact aT h ri
     · rename_i h0
       rintro ⟨hl, kK⟩
       have Da : vs.length = c * i.size := by rw [hr.length, hl]
       have ho : ∀ W : World, W.heap = w.heap -> (Builtin.firstCells i.size c (.slice (some ⟨aH, off, none⟩) c c)).run C.P W = .ok vs.toArray W := fun W hW =>
        run_firstCells_some W i.size c ⟨aH, off, none⟩ c c vs Da (fun j u hu => by
         rw [ix]
         have : W.cell? ⟨aH, off + j, none⟩ = w.cell? ⟨aH, off + j, none⟩ := by simp [World.cell?, hW]
         rw [this]; exact (h.bM _ _ _ (k9 j u hu)).1)
       obtain ⟨cap, rest, h1, h2, h3, h4, h5⟩ := grow (some ⟨aH, off, none⟩) c c vs ho Da (by omega) kK
       rw [bK, h5]
       have dA := h.grow (iw w)
       refine mG dA (hr.append qz) ?_ h3 (by rw [fX, hl, qu, Nat.add_mul]) h4 h1 h2
       intro u hu
       simp only [fC] at hu
       rcases hu with hu | hu
       · obtain ⟨j, hj⟩ := List.getElem?_of_mem hu
         exact (h.bM _ _ _ (k9 j u hj)).2
       · exact u9 u hu
   · rename_i n τ l
     rintro ⟨Va, hl, kK⟩
     simp only [ay] at hs
     obtain ⟨aH, off, c, vs, rfl, AX, sF, vd, k9, hr⟩ := hs
     simp only [nN] at vd
     obtain ⟨rfl, w9⟩ := vd
     obtain ⟨ZT, c', cur, k1, k2, k3, k4, k5, k6, k7⟩ := h.tok τ _ Va
     rw [w9] at k1; cases k1
     have Da : vs.length = n * i.size := by rw [hr.length, hl]
     by_cases mW : n + m <= c
     · have mr : n * i.size + us.length <= cur.size := by
        have e4 : cur.size = c * i.size := k4
        rw [IZ, e4, <- Nat.add_mul]; exact Nat.mul_le_mul_right _ mW
       have eW := run_storeCells_at C.P aH (n * i.size) e us 0 cur w k3 (by simpa using mr) u9
       simp only [Nat.add_zero] at eW
       rw [bK, mc ht hu hd hi hm (hf w rfl) mW]
       simp only [ix, ck, eW, bW]
       obtain ⟨rM, g', t1, hle, t2, t3, t4⟩ := h.Wd Va w9 cur (cur.toList.take (n * i.size) ++ us ++ cur.toList.drop (n * i.size + us.length)).toArray us m k3 IZ mW (by simp) u9
       refine ⟨_, _, g', rM, rfl, t1, hle, t4, ?_⟩
       simp only [NV.at, ay]
       refine ⟨aH, 0, c, vs ++ us, rfl, mW, sF, ⟨rfl, t2⟩, fun j u hu => ?_, (hr.append qz).mono hle⟩
       by_cases hj : j < vs.length
       · rw [ua hj] at hu
         exact (k9.mono hle) j u hu
       · rw [List.getElem?_append_right (by omega)] at hu
         have e0 : n * i.size + (j - vs.length) = 0 + j := by omega
         have ZJ : g'.bM aH (n * i.size + (j - vs.length)) = some u := t3 _ u hu
         rw [e0] at ZJ
         exact ZJ
     · have ho : ∀ W : World, W.heap = w.heap -> (Builtin.firstCells i.size n (.slice (some ⟨aH, 0, none⟩) n c)).run C.P W = .ok vs.toArray W := fun W hW =>
        run_firstCells_some W i.size n ⟨aH, 0, none⟩ n c vs Da (fun j u hu => by
         rw [ix]
         have : W.cell? ⟨aH, 0 + j, none⟩ = w.cell? ⟨aH, 0 + j, none⟩ := by simp [World.cell?, hW]
         rw [this]; exact (h.bM _ _ _ (k9 j u hu)).1)
       obtain ⟨cap, rest, h1, h2, h3, h4, h5⟩ := grow (some ⟨aH, 0, none⟩) n c vs ho Da (by omega) kK
       rw [bK, h5]
       have dA := h.grow (iw w)
       refine mG dA (hr.append qz) ?_ h3 (by rw [fX, hl, qu, Nat.add_mul]) h4 h1 h2
       intro u hu
       simp only [fC] at hu
       rcases hu with hu | hu
       · obtain ⟨j, hj⟩ := List.getElem?_of_mem hu
         exact (h.bM _ _ _ (k9 j u hj)).2
       · exact u9 u hu
   · rename_i b off n gz e'
     split
     · rename_i l hb
       rintro ⟨rfl, rfl, rfl, Y9, kK⟩
       simp only [ay] at hs
       obtain ⟨x, c, hx, rfl, AX, sF, X1, FN⟩ := hs
       obtain ⟨x', cur, vs, Yd, k1, k2, k3, k4, k5, k6, k7, k8⟩ := h.box b l hb
       rw [hx] at k1; cases k1
       have qp : cur.size = c * i.size := by rw [k4]; omega
       have Da := k6.length
       by_cases mW : n + m <= c
       · have mr : n * i.size + us.length <= cur.size := by
          rw [IZ, qp, <- Nat.add_mul]; exact Nat.mul_le_mul_right _ mW
         have eW := run_storeCells_at C.P x.aH (n * i.size) x.e us 0 cur w k3 (by simpa using mr) u9
         simp only [Nat.add_zero] at eW
         rw [bK, mc ht hu hd hi hm (hf w rfl) mW]
         simp only [ix, ck, eW, bW]
         have e1 : cur.toList.take (n * i.size) = vs.take (n * i.size) := by rw [k5, List.take_append_of_le_length (by omega)]
         have sI := h.setRow hb hx (l' := l.take (n * i.size) ++ l2) (cur.toList.take (n * i.size) ++ us ++ cur.toList.drop (n * i.size + us.length)).toArray (vs.take (n * i.size) ++ us) (cur.toList.drop (n * i.size + us.length)) (by
          simp only [List.size_toArray, fX, List.length_take, List.length_drop, pr]; omega) (by simp [e1]) ((k6.take _).append qz) (by
          intro u hu
          simp only [fC] at hu
          rcases hu with (hu | hu) | hu
          · exact k7 u (List.mem_of_mem_take hu)
          · exact u9 u hu
          · exact k7 u (List.mem_of_mem_drop hu))
         obtain ⟨b', g', f1, hle, f2, f3⟩ := sI.rename (b := b) (x := .box (l.take (n * i.size) ++ l2)) (by simp [St.bT, St.set]) hx
         have ed : (U.bT b (l.take (n * i.size) ++ l2)).del b = U.del b := by
          simp only [St.bT, St.set, St.del, St.mk.injEq, and_true]
          funext y
          split <;> rfl
         rw [ed] at f1 f3
         refine ⟨_, _, g', b', rfl, f1, hle, f3, ?_⟩
         simp only [NV.at, ay]
         exact ⟨x, c, f2, rfl, mW, sF, X1, FN⟩
       · have Zk : (vs.take (n * i.size)).length = n * i.size := by simp; omega
         have ho : ∀ W : World, W.heap = w.heap -> (Builtin.firstCells i.size n (.slice (some ⟨x.aH, 0, none⟩) n c)).run C.P W = .ok (vs.take (n * i.size)).toArray W := fun W hW =>
          run_firstCells_some W i.size n ⟨x.aH, 0, none⟩ n c _ Zk (fun j u hu => by
           rw [ix]
           have : W.cell? ⟨x.aH, 0 + j, none⟩ = w.cell? ⟨x.aH, 0 + j, none⟩ := by simp [World.cell?, hW]
           rw [this, cell_of_row _ _ _ cur x.e (0, 0) k3, ck, <- iH, k5]
           rw [List.getElem?_take] at hu
           split at hu
           · rw [ua (by omega)]; exact hu
           · cases hu)
         obtain ⟨cap, rest, h1, h2, h3, h4, h5⟩ := grow (some ⟨x.aH, 0, none⟩) n c _ ho Zk (by omega) kK
         rw [bK, h5]
         have dA := h.grow (iw w)
         refine nR dA ((k6.take _).append qz) ?_ h3 h4 h1 h2
         intro u hu
         simp only [fC] at hu
         rcases hu with hu | hu
         · refine k7 u ?_
           rw [k5]
           exact List.mem_append_left _ (List.mem_of_mem_take hu)
         · exact u9 u hu
     · trivial
   · trivial
 · trivial
end
end Go.Rip
namespace Go.Rip
open Go.RowKit
section
variable {C : cu} {g : Gh} {U : St} {w : World}
def dq (uZ : Int) : Option AV -> Option Int
 | none => some uZ
 | some (.int _ n) => some n
 | _ => none
def pM : iV -> Option AV -> iV
 | .full, none => .full
 | _, _ => .iW
def DV (P : Program) (t : TypeId) (x : AV) (lo hi : Option AV) : av :=
 match x with
 | .str s => match kM P t, dq 0 lo, dq s.length hi with
   | true, some l, some h => .cond (0 <= l /\ l <= h /\ h <= s.length) (.val (.str ((s.take h.toNat).drop l.toNat)))
   | _, _, _ => .bad
 | .vec n cap l => match dU P t, dq 0 lo, dq n hi with
   | some (_, sz), some a, some b => .cond (0 <= a /\ a <= b /\ b <= n) (.val (.vec (b.toNat - a.toNat) (pM cap hi) ((l.take (b.toNat * sz)).drop (a.toNat * sz))))
   | _, _, _ => .bad
 | .al => match dU P t, dq 0 lo, dq 0 hi with
   | some (_, _), some a, some b => .cond (a = 0 /\ b = 0) (.val .al)
   | _, _, _ => .bad
 | .ms b off n gz e => match dU P t, dq 0 lo, dq n hi with
   | some (_, sz), some a, some h => .cond (0 <= a /\ a <= h /\ h <= n /\ (a < n \/ a = 0) /\ gz = sz) (.val (.ms b (off + a.toNat * sz) (h.toNat - a.toNat) gz e))
   | _, _, _ => .bad
 | _ => .bad
theorem run_sliceBound {P : Program} {x : Value} {k : IntKind} {n : Int} {y : Nat} {code : BoundsCode} (hx : x = .int k n) (h0 : 0 <= n) (h1 : n <= y) : (Instr.sliceBound x y code).run P w = .ok n.toNat w := by
 subst hx
 simp [Instr.sliceBound, asIntOf, h0, h1]
theorem yl {uZ : Int} {o : Option AV} {v : Option Value} {n : Int} (hr : match o, v with | none, none => True | some x, some u => ay g x u | _, _ => False) (hb : dq uZ o = some n) :
 (o = none /\ v = none /\ n = uZ) \/ ∃ k u, v = some u /\ u = .int k n /\ ∃ x, o = some x := by
 cases o with
 | none =>
   cases v with
   | none => simp [dq] at hb; exact .inl ⟨rfl, rfl, hb.symm⟩
   | some u => exact hr.elim
 | some x =>
   cases v with
   | none => exact hr.elim
   | some u =>
     cases x <;> simp only [dq, reduceCtorEq, gr] at hb
     subst hb
     simp only [ay] at hr
     exact .inr ⟨_, u, rfl, hr, _, rfl⟩
theorem lr {P : Program} {isS : Bool} {len cap : Nat} {lo hi : Option AV} {vl vh : Option Value} {a b : Int}
 (hl : match lo, vl with | none, none => True | some x, some u => ay g x u | _, _ => False) (hh : match hi, vh with | none, none => True | some x, some u => ay g x u | _, _ => False)
 (ha : dq 0 lo = some a) (hb : dq len hi = some b) (h0 : 0 <= a) (h1 : a <= b) (h2 : b <= len) (h3 : len <= cap) :
 (Instr.sliceBounds isS len cap vl vh none).run P w = .ok (a.toNat, b.toNat, cap) w := by
 rcases yl hl ha with ⟨_, rfl, rfl⟩ | ⟨k, u, rfl, hu, _⟩ <;> rcases yl hh hb with ⟨_, rfl, rfl⟩ | ⟨k', u', rfl, mj, _⟩
 · simp [Instr.sliceBounds]
 · have e1 : ∀ c, (Instr.sliceBound u' cap c).run P w = .ok b.toNat w := fun c => run_sliceBound mj (by omega) (by omega)
   simp [Instr.sliceBounds, e1]
 · have e1 : ∀ c, (Instr.sliceBound u len c).run P w = .ok a.toNat w := fun c => run_sliceBound hu h0 (by omega)
   simp [Instr.sliceBounds, e1]
 · have e1 : ∀ c, (Instr.sliceBound u' cap c).run P w = .ok b.toNat w := fun c => run_sliceBound mj (by omega) (by omega)
   have e2 : ∀ c, (Instr.sliceBound u b.toNat c).run P w = .ok a.toNat w := fun c => run_sliceBound hu h0 (by omega)
   simp [Instr.sliceBounds, e1, e2]
theorem Fa (h : aY g U w) {t : TypeId} {x : AV} {v : Value} {lo hi : Option AV} {vl vh : Option Value} (hx : ay g x v)
 (hl : match lo, vl with | none, none => True | some x, some u => ay g x u | _, _ => False) (hh : match hi, vh with | none, none => True | some x, some u => ay g x u | _, _ => False) :
 av.Fits C g U (DV C.P t x lo hi) ((do let r <- Instr.sliceAt t v vl vh none; pure (Next.value r) : Sem Next).run C.P w) := by
 have ix : ∀ aH off j, (⟨aH, off, none⟩ : Addr).add j = ⟨aH, off + j, none⟩ := fun aH off j => by unfold Addr.add; split <;> simp_all
 unfold DV
 split
 · rename_i s
   split
   · rename_i a b ht ha hb
     rintro ⟨h0, h1, h2⟩
     simp only [ay] at hx
     subst hx
     have dG : (ByteArray.mk s.toArray).size = s.length := by simp [ByteArray.size]
     have hr := lr (w := w) (P := C.P) (isS := false) hl hh ha hb h0 h1 h2 (df _)
     simp only [Instr.sliceAt, Instr.slice, run_underlying (mK ht), bK, bW, dG, hr, bY, Option.isSome_none, bq, if_false]
     refine aT h ?_
     simp only [ay]
     congr 1
     apply ByteArray.ext
     simp only [ByteArray.data_extract]
     apply Array.ext'
     simp [List.extract_eq_take_drop, List.drop_take]
   · trivial
 · rename_i n cap l
   split
   · rename_i e sz a b ht ha hb
     rintro ⟨h0, h1, h2⟩
     simp only [ay] at hx
     obtain ⟨aH, off, c, vs, rfl, AX, sF, vd, k9, hr⟩ := hx
     obtain ⟨i, z, hu, il, hz, sK, rfl, oD, _⟩ := gg ht
     have fy := lr (w := w) (P := C.P) (isS := true) hl hh ha hb h0 h1 h2 AX
     simp only [Instr.sliceAt, Instr.slice, run_underlying hu, bK, bW, fy, bY, dF il]
     refine aT h ?_
     have XL : nN g (pM cap hi) aH (if c = a.toNat then off else off + a.toNat * i.size) (b.toNat - a.toNat) (c - a.toNat) := by
      cases cap with
      | full =>
        cases hi with
        | none =>
          simp only [pM, nN] at vd ⊢
          simp only [dq, gr] at hb
          omega
        | some y => trivial
      | own τ => trivial
      | iW => trivial
     simp only [ay]
     refine ⟨aH, if c = a.toNat then off else off + a.toNat * i.size, c - a.toNat, (vs.take (b.toNat * i.size)).drop (a.toNat * i.size), ?_, by omega, by omega, XL, ?_, (hr.take _).drop _⟩
     · simp only [Option.map_some, ix]
       split <;> rfl
     · split
       · rename_i e1
         have : (vs.take (b.toNat * i.size)).drop (a.toNat * i.size) = [] := by
          rw [List.drop_eq_nil_iff]
          have : b.toNat <= a.toNat := by omega
          have := Nat.mul_le_mul_right i.size this
          simp; omega
         rw [this]; intro j u hu; simp at hu
       · intro j u hu
         rw [List.getElem?_drop, List.getElem?_take] at hu
         split at hu
         · have := k9 _ u hu
           rw [Nat.add_assoc]; exact this
         · cases hu
   · trivial
 · split
   · rename_i e sz a b ht ha hb
     rintro ⟨rfl, rfl⟩
     simp only [ay] at hx
     subst hx
     obtain ⟨i, z, hu, il, hz, sK, rfl, oD, _⟩ := gg ht
     have fy := lr (w := w) (P := C.P) (isS := true) (len := 0) (cap := 0) hl hh ha (by simpa using hb) (by omega) (by omega) (by simp) (df _)
     simp only [Instr.sliceAt, Instr.slice, run_underlying hu, bK, bW, fy, bY, dF il]
     refine aT h (by simp [ay])
   · trivial
 · rename_i b off n gz e
   split
   · rename_i e' sz a YS ht ha hb
     rintro ⟨h0, h1, h2, h3, rfl⟩
     simp only [ay] at hx
     obtain ⟨y, c, hy, rfl, AX, sF, dG, FN⟩ := hx
     obtain ⟨i, z, hu, il, hz, sK, rfl, oD, _⟩ := gg ht
     have fy := lr (w := w) (P := C.P) (isS := true) hl hh ha hb h0 h1 h2 AX
     simp only [Instr.sliceAt, Instr.slice, run_underlying hu, bK, bW, fy, bY, dF il]
     refine aT h ?_
     simp only [ay]
     have e2 : off + a.toNat * i.size + (c - a.toNat) * i.size = y.size := by
      have : a.toNat * i.size + (c - a.toNat) * i.size = c * i.size := by rw [<- Nat.add_mul]; congr 1; omega
      omega
     refine ⟨y, c - a.toNat, hy, ?_, by omega, by omega, e2, FN⟩
     simp only [Option.map_some, ix]
     split
     · rename_i e1
       have h0a : a.toNat = 0 := by omega
       simp [h0a]
     · rfl
   · trivial
 · trivial
def fo (op : UnOp) (x : AV) : av :=
 match op, x with
 | .not, .bool b => .val (.bool (!b))
 | .neg, .int k n => gk k (0 - n)
 | _, _ => .bad
theorem Eo (h : aY g U w) (k : IntKind) (n : Int) : av.Fits C g U (gk k n) (.ok (.value (.int k (k.wrap n))) w) := by
 unfold gk
 split
 · intro hi
   rw [uv hi]
   exact aT h (by simp only [ay])
 · exact aT h (by simp only [ay])
theorem O8 (h : aY g U w) {op : UnOp} {x : AV} {v : Value} (hx : ay g x v) : av.Fits C g U (fo op x) ((do let r <- Op.unary op v; pure (Next.value r) : Sem Next).run C.P w) := by
 unfold fo
 split
 · simp only [ay] at hx; subst hx
   exact aT h (by simp only [ay])
 · simp only [ay] at hx; subst hx
   simp only [Op.unary, Op.intArith, bK, bY, bW]
   exact Eo h _ _
 · trivial
def G8 (P : Program) (t : TypeId) : Option IntKind := match P.underlying t with | some (.int k) => some k | _ => none
def tI (P : Program) (t : TypeId) : Bool := match P.underlying t with
 | some (.slice e) => match P.underlying e with
   | some (.int .u8) => true
   | _ => false
 | _ => false
theorem BL {P : Program} {t : TypeId} (h : tI P t = true) : ∃ e, P.underlying t = some (.slice e) /\ P.underlying e = some (.int .u8) := by
 unfold tI at h
 split at h
 · rename_i e he
   split at h
   · rename_i hu; exact ⟨e, he, hu⟩
   · cases h
 · cases h
def BR (P : Program) (src dst : TypeId) (x : AV) : av :=
 match G8 P dst, (P.underlying src).isSome, x with
 | some .i64, true, .int _ n => .cond (uy n) (.val (.int .i64 n))
 | some k, true, .int _ n => .val (.int k (k.wrap n))
 | none, true, .str s => if kM P dst = true /\ kM P src = true then .val (.str s) else
   if tI P dst = true /\ kM P src = true then .cond (s.length <= 4294967296) (.val (.vec s.length .iW (s.map fun b => .int .u8 b.toNat))) else .bad
 | _, _, _ => .bad
theorem BO (h : aY g U w) {src dst e : TypeId} {s : List UInt8} (hd : C.P.underlying dst = some (.slice e)) (he : C.P.underlying e = some (.int .u8)) (hs : C.P.underlying src = some .string) (hlen : s.length <= 4294967296) :
 av.Fits C g U (.val (.vec s.length .iW (s.map fun b => .int .u8 b.toNat))) ((do let r <- convert src dst (.string ⟨s.toArray⟩); pure (Next.value r) : Sem Next).run C.P w) := by
 have fy := Lib.run_convert_string_bytes (P := C.P) w src dst e ⟨s.toArray⟩ hs hd he
 have dG : (ByteArray.mk s.toArray).size = s.length := by simp [ByteArray.size]
 rw [dG] at fy
 have fZ := grownCap_ge w s.length 0 e
 have hle := grownCap_le_maxLen w s.length 0 e (by unfold maxLen; omega)
 let vs : List Value := s.map fun b => .int .u8 b.toNat
 let g' : Gh := { g with bM := fun aH o => if aH = w.heap.size then vs[o]? else g.bM aH o }
 have na : ∀ o, g'.bM w.heap.size o = vs[o]? := fun o => by show (if w.heap.size = w.heap.size then _ else _) = _; rw [if_pos rfl]
 have hold : ∀ aH o, aH ≠ w.heap.size -> g'.bM aH o = g.bM aH o := fun aH o hx => by show (if aH = w.heap.size then _ else _) = _; rw [if_neg hx]
 have GY : Gh.Le g g' := ⟨rfl, rfl, fun _ _ h => h, fun aH o u hu => by
  rw [hold _ _ (fun e => by subst e; rw [h.wo (df _)] at hu; cases hu)]; exact hu, fun _ _ h => h, fun _ h => h, fun q o hq => hold _ _ (by have := h.le; omega), fun _ _ => rfl⟩
 have dA : aY g' U (Lib.bytesWorld w e ⟨s.toArray⟩) := by
  refine h.change w.heap.size h.le GY rfl rfl ⟨rfl, rfl, rfl, by rw [Lib.bytesWorld_size]; omega⟩ (fun k _ hk => Lib.bytesWorld_at_old w e _ k hk) hold (fun _ _ => rfl) (fun o u hu => ?_) (fun es c hr => ?_) (fun b x p k1 k2 => Nat.ne_of_lt (h.tU k1 k2)) (h.Ag (df _))
  · rw [na] at hu
    simp only [vs, kB, mA] at hu
    obtain ⟨b, hb, rfl⟩ := hu
    have aJ := (dm.1 hb).1
    refine ⟨?_, rfl⟩
    rw [Lib.bytesWorld_cell w e ⟨s.toArray⟩ o (by rw [dG]; exact aJ)]
    simp [List.getD, hb]
  · have : g.bH w.heap.size = some (es, c) := hr
    rw [h.tE (df _)] at this; cases this
 simp only [bK, fy, bW, bY]
 refine ⟨_, _, g', .inl rfl, GY, dA, ?_⟩
 simp only [ay]
 refine ⟨w.heap.size, 0, _, vs, rfl, fZ, hle, trivial, fun i u hu => by rw [ck, na]; exact hu, ?_⟩
 refine aD.y7 (by simp [vs]) fun i x v hx hv => ?_
 simp only [vs, kB, mA] at hx hv
 obtain ⟨b, hb, rfl⟩ := hx
 obtain ⟨b', dQ, rfl⟩ := hv
 rw [hb] at dQ; cases dQ
 simp only [ay]
theorem GB (h : aY g U w) {src dst : TypeId} {x : AV} {v : Value} (hx : ay g x v) : av.Fits C g U (BR C.P src dst x) ((do let r <- convert src dst v; pure (Next.value r) : Sem Next).run C.P w) := by
 unfold BR
 split
 · rename_i k n hk hs
   simp only [ay] at hx; subst hx
   have hu : C.P.underlying dst = some (.int .i64) := by unfold G8 at hk; split at hk <;> simp_all
   obtain ⟨d, hd⟩ := Option.isSome_iff_exists.1 hs
   intro hi
   simp only [convert, run_underlying hu, run_underlying hd, bK, bY, bW, Conv.intToInt]
   rw [uv hi]
   exact aT h (by simp only [ay])
 · rename_i k _ n _ hk hs
   simp only [ay] at hx; subst hx
   have hu : C.P.underlying dst = some (.int k) := by unfold G8 at hk; split at hk <;> simp_all
   obtain ⟨d, hd⟩ := Option.isSome_iff_exists.1 hs
   simp only [convert, run_underlying hu, run_underlying hd, bK, bY, bW, Conv.intToInt]
   exact aT h (by simp only [ay])
 · split
   · rename_i hc
     simp only [ay] at hx; subst hx
     simp only [convert, run_underlying (mK hc.1), run_underlying (mK hc.2), bK, bY, bW]
     exact aT h (by simp only [ay])
   · split
     · rename_i hc
       intro hlen
       simp only [ay] at hx; subst hx
       obtain ⟨e, hd, he⟩ := BL hc.1
       exact BO h hd he (mK hc.2) hlen
     · trivial
 · trivial
def vD (P : Program) (t : TypeId) : Bool := match P.underlying t with | some (.interface _) => false | some _ => true | none => false
def tN (P : Program) (t : TypeId) (x : AV) : av := if vD P t = true then .val (.iface t x) else .bad
theorem yZ (h : aY g U w) {t : TypeId} {x : AV} {v : Value} (hx : ay g x v) : av.Fits C g U (tN C.P t x) ((do let r <- Instr.makeInterface t v; pure (Next.value r) : Sem Next).run C.P w) := by
 unfold tN
 split
 · rename_i hc
   unfold vD at hc
   split at hc
   · cases hc
   · rename_i d hn hd
     simp only [Instr.makeInterface, run_underlying hd, bK, bW]
     cases d
     case interface => exact (hn _ rfl).elim
     all_goals
      simp only [bY, bW]
      exact aT h (by simp only [ay]; exact ⟨v, rfl, hx⟩)
   · cases hc
 · trivial
def bg (x : AV) (i : Nat) : av :=
 match x with
 | .aQ l => fW (l.drop i)
 | _ => .bad
theorem BI (h : aY g U w) {x : AV} {v : Value} (hx : ay g x v) (i : Nat) : av.Fits C g U (bg x i) ((do let r <- Instr.extract v i; pure (Next.value r) : Sem Next).run C.P w) := by
 unfold bg
 split
 · rename_i l
   simp only [ay] at hx
   obtain ⟨vs, rfl, hr⟩ := hx
   cases hd : l.drop i with
   | nil => trivial
   | cons y ys =>
     have hy : l[i]? = some y := by
      have := congrArg (fun l => l[0]?) hd
      simpa using this
     obtain ⟨u, hu, hyu⟩ := hr.get hy
     have e : vs.toArray[i]? = some u := by simpa using hu
     simp only [Instr.extract, e, bK, bY, bW]
     exact aT h hyu
 · trivial
def qK (x : AV) : av :=
 match x with
 | .iface t v => .panic (.iface t v)
 | _ => .bad
theorem EW (h : aY g U w) {x : AV} {v : Value} (hx : ay g x v) : av.Fits C g U (qK x) ((do let r <- Instr.panic v; pure (Next.value r) : Sem Next).run C.P w) := by
 unfold qK
 split
 · have ia := hx
   simp only [ay] at hx
   obtain ⟨u, rfl, hu⟩ := hx
   simp only [Instr.panic, bK, run_goPanic, Result.andThen_halt]
   exact ⟨_, w, rfl, h, ia⟩
 · trivial
theorem z8 (h : aY g U w) {ev : Operand -> Value} {o : Oper} {X : Operand} {x : AV} (ho : o.op = .nilCheck X) (hx : ay g x (ev X)) : av.Fits C g U (bC x) ((execOp ev o).run C.P w) := by
 unfold bC
 split
 · have ia := hx
   simp only [ay] at hx
   obtain ⟨y, _, hv⟩ := hx
   simp only [execOp, ho, hv, bY]
   rw [hv] at ia
   exact aT h ia
 · have ia := hx
   simp only [ay] at hx
   obtain ⟨_, _, _, hv, _⟩ := hx
   simp only [execOp, ho, hv, bY]
   rw [hv] at ia
   exact aT h ia
 · have ia := hx
   simp only [ay] at hx
   obtain ⟨_, _, hv, _⟩ := hx
   simp only [execOp, ho, hv, bY]
   rw [hv] at ia
   exact aT h ia
 · trivial
def Hg (P : Program) (t : TypeId) : Option Bool :=
 match P.underlying t with
 | some .string => some true
 | some (.slice _) => some false
 | _ => none
def Dp (P : Program) (t : TypeId) (x : AV) (U : St) : av :=
 match Hg P t, x with
 | some true, .str s => .val (.int .i64 s.length)
 | some false, .vec n _ _ => .val (.int .i64 n)
 | some false, .ms _ _ n _ _ => .val (.int .i64 n)
 | some false, .al => .val (.int .i64 0)
 | _, _ => .bad
theorem rl {P : Program} {t : TypeId} {b : Bool} (h : Hg P t = some b) : (b = true /\ P.underlying t = some .string) \/ (b = false /\ ∃ e, P.underlying t = some (.slice e)) := by
 unfold Hg at h
 split at h
 · rename_i e; simp at h; exact .inl ⟨h, e⟩
 · rename_i e' e; simp at h; exact .inr ⟨h, _, e⟩
 · cases h
theorem Js (h : aY g U w) {t ty : TypeId} {x : AV} {v : Value} (hx : ay g x v) : av.Fits C g U (Dp C.P t x U) ((do let r <- Builtin.len_ #[t] ty #[v]; pure (Next.value r) : Sem Next).run C.P w) := by
 unfold Dp
 split
 · rename_i s C8
   have hu : C.P.underlying t = some .string := by rcases rl C8 with ⟨_, h⟩ | ⟨h, _⟩ <;> first | exact h | cases h
   simp only [ay] at hx; subst hx
   have dG : (ByteArray.mk s.toArray).size = s.length := by simp [ByteArray.size]
   simp [Builtin.len_, run_underlying hu, goInt, dG]
   exact aT h (by simp only [ay])
 · rename_i C8
   obtain ⟨e0, hu⟩ : ∃ e, C.P.underlying t = some (.slice e) := by rcases rl C8 with ⟨h, _⟩ | ⟨_, h⟩ <;> first | exact h | cases h
   simp only [ay] at hx
   obtain ⟨_, _, _, _, rfl, _⟩ := hx
   simp [Builtin.len_, run_underlying hu, goInt]
   exact aT h (by simp only [ay])
 · rename_i C8
   obtain ⟨e0, hu⟩ : ∃ e, C.P.underlying t = some (.slice e) := by rcases rl C8 with ⟨h, _⟩ | ⟨_, h⟩ <;> first | exact h | cases h
   simp only [ay] at hx
   obtain ⟨_, _, _, rfl, _⟩ := hx
   simp [Builtin.len_, run_underlying hu, goInt]
   exact aT h (by simp only [ay])
 · rename_i C8
   obtain ⟨e0, hu⟩ : ∃ e, C.P.underlying t = some (.slice e) := by rcases rl C8 with ⟨h, _⟩ | ⟨_, h⟩ <;> first | exact h | cases h
   simp only [ay] at hx; subst hx
   simp [Builtin.len_, run_underlying hu, goInt]
   exact aT h (by simp only [ay])
 · trivial
def rY (x y : AV) : av :=
 match x, y with
 | .int k a, .int k' b => if k = k' then .val (.int k (if b < a then b else a)) else .bad
 | _, _ => .bad
def xP (x y : AV) : av :=
 match x, y with
 | .int k a, .int k' b => if k = k' then .val (.int k (if b > a then b else a)) else .bad
 | _, _ => .bad
theorem Jz (h : aY g U w) {ts : Array TypeId} {ty : TypeId} {x y : AV} {v u : Value} (hx : ay g x v) (hy : ay g y u) : av.Fits C g U (xP x y) ((do let r <- Builtin.max_ ts ty #[v, u]; pure (Next.value r) : Sem Next).run C.P w) := by
 unfold xP
 split
 · split
   · rename_i e; subst e
     simp only [ay] at hx hy; subst hx hy
     simp [Builtin.max_, Builtin.max2]
     exact aT h (by simp only [ay])
   · trivial
 · trivial
theorem JA (h : aY g U w) {ts : Array TypeId} {ty : TypeId} {x y : AV} {v u : Value} (hx : ay g x v) (hy : ay g y u) : av.Fits C g U (rY x y) ((do let r <- Builtin.min_ ts ty #[v, u]; pure (Next.value r) : Sem Next).run C.P w) := by
 unfold rY
 split
 · split
   · rename_i e; subst e
     simp only [ay] at hx hy; subst hx hy
     simp [Builtin.min_, Builtin.min2]
     exact aT h (by simp only [ay])
   · trivial
 · trivial
end
end Go.Rip
namespace Go.Rip
open Go.RowKit
section
variable {C : cu} {g : Gh} {U : St} {w : World}
def eK (place : Nat -> Option (Nat × Nat)) : List (Nat × AV) -> List AV -> (List AV -> av) -> av
 | [], z, k => k z
 | (i, x) :: rest, z, k => match place i with
   | some (off, size) => .cond (x.cS = true /\ (ax x).length = size /\ off + size <= z.length) (eK place rest (aA z off (ax x)) k)
   | none => .bad
theorem u5 (off : Nat) : ∀ (l : List Value) (j : Nat) (cs : Array Value), off + j + l.length <= cs.size ->
 ((l.zipIdx j).foldl (fun (cs : Array Value) (p : Value × Nat) => cs.setIfInBounds (off + p.2) p.1) cs).toList = cs.toList.take (off + j) ++ l ++ cs.toList.drop (off + j + l.length)
 | [], j, cs, _ => by simp
 | v :: l, j, cs, hle => by
   simp only [List.zipIdx_cons, List.foldl_cons]
   simp only [jy] at hle
   rw [u5 off l (j + 1) _ (by simp; omega)]
   have hs := list_seg_step cs.toList (off + j) v l (by simpa using hle)
   rw [Array.toList_setIfInBounds]
   rw [show off + (j + 1) = off + j + 1 from rfl]
   exact hs
theorem qZ {place : Nat -> Option (Nat × Nat)} {k : List AV -> av} {kk : Array Value -> Sem Value} {S : String}
 (hk : ∀ (z : List AV) (cs : Array Value), aD g z cs.toList -> (∀ u ∈ cs.toList, u.oneCell' = true) -> av.Fits C g U (k z) ((do let r <- kk cs; pure (Next.value r) : Sem Next).run C.P w)) :
 ∀ (parts : List (Nat × AV)) (vs : List (Nat × Value)) (z : List AV) (cs : Array Value), vs.length = parts.length -> (∀ (i : Nat) (p : Nat × AV) (q : Nat × Value), parts[i]? = some p -> vs[i]? = some q -> p.1 = q.1 /\ ay g p.2 q.2) ->
  aD g z cs.toList -> (∀ u ∈ cs.toList, u.oneCell' = true) ->
  av.Fits C g U (eK place parts z k) ((do let r <- (match Instr.fill place cs vs with | some yr => kk yr | none => stuck S); pure (Next.value r) : Sem Next).run C.P w)
 | [], [], z, cs, _, _, hz, h1 => by
   simp only [eK, Instr.fill]
   exact hk z cs hz h1
 | [], _ :: _, _, _, h, _, _, _ => by simp at h
 | _ :: _, [], _, _, h, _, _, _ => by simp at h
 | (i, x) :: parts, (j, v) :: vs, z, cs, hl, hp, hz, h1 => by
   obtain ⟨rfl, hx⟩ := hp 0 _ _ rfl rfl
   dsimp only at hx ⊢
   simp only [eK]
   cases pC : place i with
   | none => trivial
   | some os =>
     obtain ⟨off, size⟩ := os
     rintro ⟨a1, a2, a3⟩
     obtain ⟨wX, wY⟩ := uW hx a1
     have hlen := wX.length
     have Db := hz.length
     have vp : v.cells.size = size := by rw [<- pr, hlen, a2]
     have hcz : off + v.cells.size <= cs.size := by rw [vp, <- pr, Db]; exact a3
     have e : (v.cells.zipIdx.foldl (fun (cs : Array Value) (p : Value × Nat) => cs.setIfInBounds (off + p.2) p.1) cs).toList = cs.toList.take off ++ v.cells.toList ++ cs.toList.drop (off + v.cells.toList.length) := by
      rw [<- Array.foldl_toList, Array.toList_zipIdx]
      have := u5 off v.cells.toList 0 cs (by simpa using hcz)
      simpa using this
     have XM : (v.cells.size ≠ size || off + v.cells.size > cs.size) = false := by simp [vp]; omega
     simp only [Instr.fill, pC]
     rw [if_neg (by rw [XM]; simp)]
     refine qZ hk parts vs _ _ (by simpa using hl) (fun i p q h2 h3 => hp (i + 1) p q (by simpa using h2) (by simpa using h3)) ?_ ?_
     · show aD g (aA z off (ax x)) (v.cells.zipIdx.foldl (fun (cs : Array Value) (p : Value × Nat) => cs.setIfInBounds (off + p.2) p.1) cs).toList
       rw [e]
       unfold aA
       rw [hlen]
       exact ((hz.take _).append wX).append (hz.drop _)
     · show ∀ u ∈ (v.cells.zipIdx.foldl (fun (cs : Array Value) (p : Value × Nat) => cs.setIfInBounds (off + p.2) p.1) cs).toList, u.oneCell' = true
       rw [e]
       intro u hu
       simp only [fC] at hu
       rcases hu with (hu | hu) | hu
       · exact h1 u (List.mem_of_mem_take hu)
       · exact wY u hu
       · exact h1 u (List.mem_of_mem_drop hu)
def jM (C : cu) (ρ : Env) (parts : Array (Nat × Operand)) : List (Nat × AV) := parts.toList.map fun p => (p.1, ρ.ev C p.2)
def Cr (P : Program) (t : TypeId) (parts : List (Nat × AV)) : av :=
 match wD P t, mY P t with
 | some pl, some z => eK (fun i => pl[i]?) parts z fun z => .val (.agg z)
 | none, some z => match rP P t with
   | some (_, _, sz) => eK (fun i => some (i * sz, sz)) parts z fun z => .val (.agg z)
   | none => .bad
 | _, _ => .bad
theorem D2 {P : Program} {t : TypeId} {pl : List (Nat × Nat)} (h : wD P t = some pl) : ∃ fs : Array Field, P.underlying t = some (.struct fs) /\ pl = fs.toList.map (fun f => (f.offset, P.cellsOf f.type)) /\
 (fs.mapM (fun f => do pure (f.offset, <- sizeOf f.type) : Field -> Sem (Nat × Nat))).run P w = .ok pl.toArray w := by
 unfold wD at h
 split at h
 · rename_i fs hu
   split at h
   · rename_i bw
     simp only [gr] at h
     refine ⟨fs, hu, h.symm, ?_⟩
     rw [Array.mapM_eq_mapM_toList]
     rw [Array.all_eq_true_iff_forall_mem] at bw
     have key : ∀ l : List Field, (∀ f ∈ l, (P.info? f.type).isSome = true) -> (l.mapM (fun f => do pure (f.offset, <- sizeOf f.type) : Field -> Sem (Nat × Nat))).run P w = .ok (l.map fun f => (f.offset, P.cellsOf f.type)) w := by
      intro l
      induction l with
      | nil => intro _; simp
      | cons f l ih =>
        intro hf
        obtain ⟨i, hi⟩ := Option.isSome_iff_exists.1 (hf f (by simp))
        have ih' := ih fun x hx => hf x (by simp [hx])
        have hc : P.cellsOf f.type = i.size := by simp [Program.cellsOf, hi]
        simp only [List.mapM_cons, bK, dF hi, bW, bY, ih', dy, hc]
     have := key fs.toList (fun f hf => bw f (by simpa using hf))
     simp only [Sem.run_map, this, bW, h]
   · cases h
 · cases h
theorem Es (h : aY g U w) {t : TypeId} {parts : List (Nat × AV)} {vs : Array (Nat × Value)} (hl : vs.size = parts.length) (hp : ∀ (i : Nat) (p : Nat × AV) (q : Nat × Value), parts[i]? = some p -> vs[i]? = some q -> p.1 = q.1 /\ ay g p.2 q.2) :
 av.Fits C g U (Cr C.P t parts) ((do let r <- Instr.build t vs; pure (Next.value r) : Sem Next).run C.P w) := by
 unfold Cr
 split
 · rename_i pl z hs hz
   obtain ⟨fs, hu, pC, fy⟩ := D2 (w := w) hs
   obtain ⟨i, zv, hi, qA, hm⟩ := kI hz
   obtain ⟨h1, h2⟩ := dE (g := g) hm
   have key := qZ (C := C) (g := g) (U := U) (w := w) (place := fun i => pl.toArray[i]?) (k := fun z => .val (.agg z)) (kk := fun cs => pure (.agg cs)) (S := "build: no such field, or a part of the wrong size") (fun z cs hz h1 => by
    simp only [bK, bY, bW]
    exact aT h (by simp only [ay]; exact ⟨cs.toList, by simp, h1, hz⟩)) parts vs.toList z zv.cells (by simpa using hl) (fun i p q h1 h2 => hp i p q h1 (by simpa using h2)) h1 h2
   have e : (fun i : Nat => pl.toArray[i]?) = fun i => pl[i]? := by funext i; simp
   rw [<- e]
   simp only [Instr.build, bK, fe hi qA, bW, run_underlying hu, fy]
   cases hf : Instr.fill (fun i : Nat => pl.toArray[i]?) zv.cells vs.toList with
   | none => simp only [hf, bK, run_stuck, Result.andThen_halt] at key ⊢; exact key
   | some yr => simp only [hf, bK, bY, bW] at key ⊢; exact key
 · rename_i z hs hz
   split
   · rename_i n e sz ha
     obtain ⟨ie, hu, YU, dG⟩ := qW ha
     obtain ⟨i, zv, hi, qA, hm⟩ := kI hz
     obtain ⟨h1, h2⟩ := dE (g := g) hm
     have key := qZ (C := C) (g := g) (U := U) (w := w) (place := fun i => some (i * sz, sz)) (k := fun z => .val (.agg z)) (kk := fun cs => pure (.agg cs)) (S := "build: a part of the wrong size") (fun z cs hz h1 => by
      simp only [bK, bY, bW]
      exact aT h (by simp only [ay]; exact ⟨cs.toList, by simp, h1, hz⟩)) parts vs.toList z zv.cells (by simpa using hl) (fun i p q h1 h2 => hp i p q h1 (by simpa using h2)) h1 h2
     simp only [Instr.build, bK, fe hi qA, bW, run_underlying hu, dF YU, dG]
     cases hf : Instr.fill (fun i : Nat => some (i * sz, sz)) zv.cells vs.toList with
     | none => simp only [hf, bK, run_stuck, Result.andThen_halt] at key ⊢; exact key
     | some yr => simp only [hf, bK, bY, bW] at key ⊢; exact key
   · trivial
 · trivial
end
end Go.Rip
namespace Go.Rip
open Go.RowKit
section
variable {C : cu} {g : Gh} {U : St} {w : World}
def bL : Nat -> List AV -> List AV
 | 0, _ => []
 | n + 1, z => z ++ bL n z
theorem je (z : List AV) : ∀ n, (bL n z).length = n * z.length
 | 0 => by simp [bL]
 | n + 1 => by simp [bL, je z n, Nat.add_mul]; omega
theorem pZ {z : List AV} {zv : Array Value} (hz : aD g z zv.toList) : ∀ n, aD g (bL n z) ((Array.range (n * zv.size)).map (zv[· % zv.size]!)).toList := fun n => by
 have hl : z.length = zv.size := by rw [<- hz.length]; simp
 refine aD.y7 (by simp [je, hl]) fun i x v hx hv => ?_
 have key : ∀ n i x, (bL n z)[i]? = some x -> z[i % zv.size]? = some x := fun n => by
  induction n with
  | zero => intro i x hx; simp [bL] at hx
  | succ n ih =>
    intro i x hx
    simp only [bL] at hx
    by_cases hi : i < z.length
    · rw [ua hi] at hx
      rw [Nat.mod_eq_of_lt (by omega)]; exact hx
    · rw [List.getElem?_append_right (by omega)] at hx
      have := ih _ _ hx
      rw [hl, <- Nat.mod_eq_sub_mod (by omega)] at this
      exact this
 have ia := key n i x hx
 obtain ⟨u, hu, hr⟩ := hz.get ia
 simp only [Array.toList_map, kB, mA] at hv
 obtain ⟨j, hj, rfl⟩ := hv
 have CR : j = i := by
  rw [iH, Array.getElem?_range] at hj
  split at hj
  · simp at hj; exact hj.symm
  · cases hj
 subst CR
 have aJ : j % zv.size < zv.size := by
  have := (dm.1 hu).1
  simpa using this
 rw [getElem!_pos zv _ aJ]
 rw [iH, getElem?_pos zv _ aJ] at hu
 cases hu
 exact hr
def oV (P : Program) (t : TypeId) (n : Nat) (mu : Bool) (parts : List (Nat × AV)) : av :=
 match dU P t with
 | some (e, sz) => match mY P e with
   | some z => .cond (n * sz <= 16777216) (eK (fun i => some (i * sz, sz)) parts (bL n z) fun cs => .cond (cs.length = n * sz) (if mu then .lZ n sz e none cs else .val (.vec n .full cs)))
   | none => .bad
 | none => .bad
theorem xE (h : aY g U w) {t : TypeId} {n : Nat} {mu : Bool} {parts : List (Nat × AV)} {vs : Array (Nat × Value)} (hl : vs.size = parts.length) (hp : ∀ (i : Nat) (p : Nat × AV) (q : Nat × Value), parts[i]? = some p -> vs[i]? = some q -> p.1 = q.1 /\ ay g p.2 q.2) :
 av.Fits C g U (oV C.P t n mu parts) ((do let r <- Instr.buildSlice t n vs; pure (Next.value r) : Sem Next).run C.P w) := by
 unfold oV
 split
 · rename_i e sz hs
   split
   · rename_i z hz
     intro hn
     obtain ⟨i, zv, hu, hi, lH, sK, rfl, oD, _, h1⟩ := gg hs
     obtain ⟨i', WI, il, qA, hm⟩ := kI hz
     rw [hi] at il; cases il
     rw [lH] at qA; cases qA
     obtain ⟨h1, h2⟩ := dE (g := g) hm
     have NS : ¬ (n * i.size > 2 ^ 24) := by omega
     have Vh := pZ (g := g) h1 n
     have key := qZ (C := C) (g := g) (U := U) (w := w) (place := fun j => some (j * i.size, i.size)) (k := fun cs => .cond (cs.length = n * i.size) (if mu then .lZ n i.size e none cs else .val (.vec n .full cs)))
      (kk := fun cs => do pure (.slice (some (<- newRow e cs)) n n)) (S := "buildSlice: a part of the wrong size") (fun z cs hz wX => by
      intro hlen
      have qp : cs.size = n * i.size := by rw [<- pr, hz.length, hlen]
      have AY : n <= maxLen := by
       have : n <= n * i.size := Nat.le_mul_of_pos_right _ oD
       unfold maxLen; omega
      simp only [newRow, bK, bY, run_newObj, bW]
      split
      · have := nR (C := C) (del := none) (e := e) (sz := i.size) (n := n) (c := n) h (vs := cs.toList) (rest := []) hz wX (by simp) (by simp [qp]) (df _) AY
        simpa using this
      · obtain ⟨g', hle, k9, _, _, dA⟩ := h.JE e cs cs.toList [] (by simp) wX
        refine ⟨_, _, g', .inl rfl, hle, dA, ?_⟩
        simp only [ay]
        exact ⟨w.heap.size, 0, n, cs.toList, rfl, df _, AY, rfl, k9, hz.mono hle⟩) parts vs.toList (bL n z) ((Array.range (n * zv.cells.size)).map (zv.cells[· % zv.cells.size]!)) (by simpa using hl) (fun i p q h1 h2 => hp i p q h1 (by simpa using h2)) Vh (by
        intro u hu
        simp only [Array.toList_map, List.mem_map] at hu
        obtain ⟨j, _, rfl⟩ := hu
        have aJ : j % zv.cells.size < zv.cells.size := Nat.mod_lt _ (by omega)
        rw [getElem!_pos zv.cells _ aJ]
        exact h2 _ (by simp))
     simp only [Instr.buildSlice, bK, run_underlying hu, dF hi, bW, if_neg NS, dT, fe hi lH, bY]
     by_cases h0 : n * i.size = 0
     · have yK : n = 0 := by
        rcases Nat.mul_eq_zero.1 h0 with h | h
        · exact h
        · omega
       subst yK
       simp only [Nat.zero_mul, if_true, bW] at key ⊢
       have e1 : (Array.range 0).map ((#[] : Array Value)[· % (#[] : Array Value).size]!) = (Array.range 0).map (zv.cells[· % zv.cells.size]!) := by simp
       rw [e1]
       cases hf : Instr.fill (fun j => some (j * i.size, i.size)) ((Array.range 0).map (zv.cells[· % zv.cells.size]!)) vs.toList with
       | none => simp only [hf, bK, run_stuck, Result.andThen_halt] at key ⊢; exact key
       | some yr => simp only [hf, bK, bY, bW] at key ⊢; exact key
     · simp only [if_neg h0, bW]
       rw [sK] at key ⊢
       cases hf : Instr.fill (fun j => some (j * i.size, i.size)) ((Array.range (n * i.size)).map (zv.cells[· % i.size]!)) vs.toList with
       | none => simp only [hf, bK, run_stuck, Result.andThen_halt] at key ⊢; exact key
       | some yr => simp only [hf, bK, bY, bW] at key ⊢; exact key
   · trivial
 · trivial
def n0 (P : Program) (t : TypeId) : Option (FK × TypeId) :=
 match P.underlying t with
 | some (.map k e) => match P.underlying k with
   | some (.int _) => some (.i, e)
   | some .string => some (.s, e)
   | _ => none
 | _ => none
def fz : FK -> AV -> AV -> Option Bool
 | .i, .int k a, .int k' b => if k = k' then some (a == b) else none
 | .s, .str a, .str b => some (a == b)
 | _, _, _ => none
def nX : FK -> AV -> Bool
 | .i, .int _ _ => true
 | .s, .str _ => true
 | _, _ => false
def jG (fk : FK) (k : AV) : List AV -> Nat -> Option (Option Nat)
 | [], _ => some none
 | y :: ys, i => match fz fk k y with
   | none => none
   | some b => if b = true then some (some i) else jG fk k ys (i + 1)
def fh (k v : AV) : List AV -> List AV -> List AV × List AV
 | [], _ => ([k], [v])
 | y :: ys, ws => if gD k y = true then (k :: y :: ys, v :: ws) else
   match ws with
   | [] => ([k], [v])
   | x :: xs => (y :: (fh k v ys xs).1, x :: (fh k v ys xs).2)
def n6 (P : Program) (t : TypeId) (m k v : AV) (U : St) : av :=
 match n0 P t, m with
 | some (fk, _), .mp id => match U.mp id with
   | some (ks, vs) => match jG fk k ks 0, nX fk k with
     | some none, true => .jD (.aQ []) id (.mp (fh k v ks vs).1 (fh k v ks vs).2)
     | some (some i), true => .jD (.aQ []) id (.mp ks (vs.set i v))
     | _, _ => .bad
   | none => .bad
 | _, _ => .bad
def kg (U : St) : AV -> Option (List AV × List AV)
 | .mp id => U.mp id
 | .eI ks vs => some (ks, vs)
 | .jT => some ([], [])
 | _ => none
def kn (fk : FK) (k : AV) (uZ : AV) (ok : Bool) : List AV -> List AV -> av
 | y :: ys, v :: vs => match fz fk k y with
   | none => .bad
   | some b => if b = true then .val (if ok then .aQ [v, .bool true] else v) else kn fk k uZ ok ys vs
 | _, _ => .val (if ok then .aQ [uZ, .bool false] else uZ)
def zeroV (P : Program) (t : TypeId) : Option AV := ((P.info? t).bind (·.zero)).map AI
def sQ (P : Program) (t : TypeId) (m k : AV) (ok : Bool) (U : St) : av :=
 match n0 P t, kg U m with
 | some (fk, e), some (ks, vs) => match zeroV P e, nX fk k with
   | some z, true => kn fk k z ok ks vs
   | _, _ => .bad
 | _, _ => .bad
theorem vy {P : Program} {t e : TypeId} {fk : FK} (h : n0 P t = some (fk, e)) : ∃ k, P.underlying t = some (.map k e) /\ ((fk = .i /\ ∃ q, P.underlying k = some (.int q)) \/ (fk = .s /\ P.underlying k = some .string)) := by
 unfold n0 at h
 split at h
 · rename_i k e' hu
   split at h
   · rename_i q hq
     simp only [gr, jz] at h
     obtain ⟨rfl, rfl⟩ := h
     exact ⟨k, hu, .inl ⟨rfl, q, hq⟩⟩
   · rename_i hq
     simp only [gr, jz] at h
     obtain ⟨rfl, rfl⟩ := h
     exact ⟨k, hu, .inr ⟨rfl, hq⟩⟩
   · cases h
 · cases h
theorem pO {P : Program} {k : TypeId} {fk : FK} {d : TypeDesc} (hd : P.underlying k = some d) (hk : (fk = .i /\ ∃ q, d = .int q) \/ (fk = .s /\ d = .string)) {x y : AV} {u v : Value} {b : Bool} (hx : ay g x u) (hy : ay g y v) (h : fz fk x y = some b) :
 Instr.sameNow d u v = some b := by
 rcases hk with ⟨rfl, q, rfl⟩ | ⟨rfl, rfl⟩ <;> cases x <;> cases y <;> simp only [fz, reduceCtorEq] at h
 · split at h
   · rename_i e; subst e
     simp only [ay] at hx hy; subst hx hy
     simp at h; subst h
     simp [Instr.sameNow]
   · cases h
 · simp only [ay] at hx hy; subst hx hy
   simp only [gr] at h; subst h
   simp only [Instr.sameNow, beq_toListBytes, ByteArray.toList_eq, List.toList_toArray]
theorem findNow_spec {d : TypeDesc} {u : Value} : ∀ (es : List MapEntry) (i : Nat), (∀ e ∈ es, ∃ b, Instr.sameNow d u e.key = some b) ->
 ((∀ e ∈ es, Instr.sameNow d u e.key = some false) /\ Instr.findNow d u es i = some none) \/
 (∃ j e, es[j]? = some e /\ Instr.sameNow d u e.key = some true /\ Instr.findNow d u es i = some (some (i + j, e.val)))
 | [], i, _ => .inl ⟨by simp, by simp [Instr.findNow]⟩
 | e :: es, i, h => by
   obtain ⟨b, hb⟩ := h e (by simp)
   cases b
   · rcases findNow_spec es (i + 1) (fun x hx => h x (by simp [hx])) with ⟨h1, h2⟩ | ⟨j, e', h1, h2, h3⟩
     · refine .inl ⟨fun x hx => ?_, by simp [Instr.findNow, hb, h2]⟩
       rcases ep.1 hx with rfl | hx
       · exact hb
       · exact h1 x hx
     · exact .inr ⟨j + 1, e', by simpa using h1, h2, by simp [Instr.findNow, hb, h3]; omega⟩
   · exact .inr ⟨0, e, by simp, hb, by simp [Instr.findNow, hb]⟩
theorem rW {fk : FK} {k y : AV} (h : fz fk k y = some true) : k = y := by
 cases fk <;> cases k <;> cases y <;> simp only [fz, reduceCtorEq] at h
 · split at h
   · rename_i e; subst e; simp at h; rw [h]
   · cases h
 · simp at h; rw [h]
theorem Hc (k : AV) : gD k k = false := by
 cases k <;> simp [gD]
theorem EO {a b c : AV} (h : gD a b = true) (h' : gD b c = true) : gD a c = true := by
 cases a <;> cases b <;> simp only [gD, bq] at h <;> cases c <;> simp only [gD, bq, bN, cP] at h h' ⊢
 · exact ⟨h.1.trans h'.1, by omega⟩
 · exact List.lt_trans h h'
theorem NY {fk : FK} {k y : AV} (h : fz fk k y = some false) : gD k y = true \/ gD y k = true := by
 cases fk <;> cases k <;> cases y <;> simp only [fz, reduceCtorEq] at h
 · split at h
   · rename_i e; subst e; simp at h; simp [gD]; omega
   · cases h
 · simp at h
   simp only [gD, cP]
   rcases Classical.em ((_ : List UInt8) < _) with hl | hl
   · exact .inl hl
   · refine .inr ?_
     rcases Classical.em ((_ : List UInt8) < _) with qu | qu
     · exact qu
     · exact absurd (List.le_antisymm (List.not_lt.1 qu) (List.not_lt.1 hl)) h
theorem yU {fk : FK} {k y z : AV} (h : fz fk k y = some true) (hz : gD y z = true \/ gD z y = true) : ∃ b, fz fk k z = some b := by
 have := rW h
 subst this
 cases fk <;> cases k <;> cases z <;> simp [fz, gD] at h hz ⊢
 rcases hz with ⟨e, _⟩ | ⟨e, _⟩
 · exact e
 · exact e.symm
theorem tw {fk : FK} {k : AV} : ∀ {ks : List AV} {s : Nat} {r : Option Nat}, jG fk k ks s = some r ->
 (r = none /\ ∀ y ∈ ks, fz fk k y = some false) \/ (∃ i, r = some (s + i) /\ ∃ y, ks[i]? = some y /\ fz fk k y = some true)
 | [], s, r, h => by simp only [jG, gr] at h; exact .inl ⟨h.symm, by simp⟩
 | y :: ys, s, r, h => by
   simp only [jG] at h
   split at h
   · cases h
   · rename_i b hb
     cases b
     · simp only [bq, if_false] at h
       rcases tw h with ⟨h1, h2⟩ | ⟨i, h1, z, h2, h3⟩
       · refine .inl ⟨h1, fun z hz => ?_⟩
         rcases ep.1 hz with rfl | hz
         · exact hb
         · exact h2 z hz
       · exact .inr ⟨i + 1, by rw [h1]; congr 1; omega, z, by simpa using h2, h3⟩
     · simp only [if_true, gr] at h
       exact .inr ⟨0, by rw [<- h]; rfl, y, by simp, hb⟩
theorem HK {ks : List AV} (h : mD ks) {i j : Nat} {y : AV} (hi : ks[i]? = some y) (hj : ks[j]? = some y) : i = j := by
 have key : ∀ i j, i < j -> ks[i]? = some y -> ks[j]? = some y -> False := fun i j fM hi hj => by
  obtain ⟨h1, h2⟩ := dm.1 hi
  obtain ⟨h3, h4⟩ := dm.1 hj
  have := List.pairwise_iff_getElem.1 h i j h1 h3 fM
  rw [h2, h4, Hc] at this; cases this
 rcases Nat.lt_trichotomy i j with h | h | h
 · exact (key i j h hi hj).elim
 · exact h
 · exact (key j i h hj hi).elim
theorem xI {P : Program} {kt : TypeId} {fk : FK} {d : TypeDesc} (hd : P.underlying kt = some d) (hk : (fk = .i /\ ∃ q, d = .int q) \/ (fk = .s /\ d = .string)) {x : AV} {u : Value} (hx : ay g x u)
 {ks : List AV} {l es : List MapEntry} (hp : l.Perm es) (hs : mD ks) (hr : aD g ks (l.map (·.key))) {r : Option Nat} (h : jG fk x ks 0 = some r) :
 (r = none /\ (∀ y ∈ ks, fz fk x y = some false) /\ ∀ i, Instr.findNow d u es i = some none) \/
 (∃ i j e, r = some i /\ ks[i]? = some x /\ l[i]? = some e /\ es[j]? = some e /\ ay g x e.key /\ ∀ s, Instr.findNow d u es s = some (some (s + j, e.val))) := by
 have mem : ∀ e ∈ es, ∃ i y, ks[i]? = some y /\ l[i]? = some e /\ ay g y e.key := fun e he => by
  obtain ⟨i, hi⟩ := List.getElem?_of_mem (hp.mem_iff.2 he)
  have aJ : i < ks.length := by
   have h1 := (dm.1 hi).1
   have := hr.length
   simp at this; omega
  obtain ⟨v, hv, I6⟩ := hr.get (i := i) (x := ks[i]) (iZ aJ)
  rw [kB, hi] at hv
  simp at hv
  subst hv
  exact ⟨i, ks[i], iZ aJ, hi, I6⟩
 rcases tw h with ⟨rfl, h1⟩ | ⟨i, rfl, y, h1, h2⟩
 · refine .inl ⟨rfl, h1, fun s => ?_⟩
   have hf : ∀ e ∈ es, Instr.sameNow d u e.key = some false := fun e he => by
    obtain ⟨i, y, hy, _, I8⟩ := mem e he
    exact pO (P := P) hd hk hx I8 (h1 y (fi hy))
   rcases findNow_spec es s (fun e he => ⟨_, hf e he⟩) with ⟨_, h2⟩ | ⟨j, e, q1, q2, _⟩
   · exact h2
   · rw [hf e (fi q1)] at q2; cases q2
 · have xf := rW h2
   subst xf
   have all : ∀ z ∈ ks, ∃ b, fz fk x z = some b := fun z hz => by
    obtain ⟨j, hj⟩ := List.getElem?_of_mem hz
    rcases Nat.lt_trichotomy i j with fM | fM | fM
    · obtain ⟨a1, a2⟩ := dm.1 h1
      obtain ⟨a3, a4⟩ := dm.1 hj
      have := List.pairwise_iff_getElem.1 hs i j a1 a3 fM
      rw [a2, a4] at this
      exact yU h2 (.inl this)
    · subst fM; rw [h1] at hj; cases hj; exact ⟨_, h2⟩
    · obtain ⟨a1, a2⟩ := dm.1 h1
      obtain ⟨a3, a4⟩ := dm.1 hj
      have := List.pairwise_iff_getElem.1 hs j i a3 a1 fM
      rw [a2, a4] at this
      exact yU h2 (.inr this)
   have same : ∀ e ∈ es, ∃ b, Instr.sameNow d u e.key = some b := fun e he => by
    obtain ⟨i, y, hy, _, I8⟩ := mem e he
    obtain ⟨b, hb⟩ := all y (fi hy)
    exact ⟨b, pO (P := P) hd hk hx I8 hb⟩
   have CW : ∃ e0, l[i]? = some e0 /\ ay g x e0.key := by
    obtain ⟨v, hv, I6⟩ := hr.get h1
    rw [kB, mA] at hv
    obtain ⟨e0, h3, rfl⟩ := hv
    exact ⟨e0, h3, I6⟩
   obtain ⟨e0, AR, Ux⟩ := CW
   have YD : Instr.sameNow d u e0.key = some true := pO (P := P) hd hk hx Ux h2
   have h0m : e0 ∈ es := hp.mem_iff.1 (fi AR)
   have pick : ∀ s, ∃ j, es[j]? = some e0 /\ Instr.findNow d u es s = some (some (s + j, e0.val)) := fun s => by
    rcases findNow_spec es s same with ⟨q1, _⟩ | ⟨j, e, q1, q2, q3⟩
    · rw [q1 e0 h0m] at YD; cases YD
    · obtain ⟨i', y, hy, AW, I8⟩ := mem e (fi q1)
      obtain ⟨b, hb⟩ := all y (fi hy)
      have FL := pO (P := P) hd hk hx I8 hb
      rw [q2] at FL
      simp only [gr] at FL
      subst FL
      have xf := rW hb
      subst xf
      have hii := HK hs h1 hy
      subst hii
      rw [AR] at AW; cases AW
      exact ⟨j, q1, q3⟩
   obtain ⟨j, hj, hjf⟩ := pick 0
   refine .inr ⟨i, j, e0, by rw [ck], h1, AR, hj, Ux, fun s => ?_⟩
   have shift : ∀ (es : List MapEntry) (a b : Nat) j v, Instr.findNow d u es a = some (some (a + j, v)) -> Instr.findNow d u es b = some (some (b + j, v)) := fun es => by
    induction es with
    | nil => intro a b j v h; simp [Instr.findNow] at h
    | cons e es ih =>
      intro a b j v h
      simp only [Instr.findNow] at h ⊢
      cases IV : Instr.sameNow d u e.key with
      | none => rw [IV] at h; cases h
      | some t =>
        rw [IV] at h
        cases t
        · dsimp only at h ⊢
          have hle : ∀ (es : List MapEntry) (a : Nat) r v, Instr.findNow d u es a = some (some (r, v)) -> a <= r := fun es => by
           induction es with
           | nil => intro a r v h; simp [Instr.findNow] at h
           | cons e es ih =>
             intro a r v h
             simp only [Instr.findNow] at h
             cases IV : Instr.sameNow d u e.key with
             | none => rw [IV] at h; cases h
             | some t =>
               rw [IV] at h
               cases t
               · have := ih _ _ _ h; omega
               · simp at h; omega
          have h1 := hle _ _ _ _ h
          have := ih (a + 1) (b + 1) (j - 1) v (by rw [h]; congr 3; omega)
          rw [this]; congr 3; omega
        · simp at h ⊢; obtain ⟨h1, h2⟩ := h; exact ⟨by omega, h2⟩
   exact shift es 0 s j _ hjf
theorem Oc {α : Type} {l m : List α} (h : l.Perm m) {i j : Nat} {e : α} (hi : l[i]? = some e) (hj : m[j]? = some e) (e' : α) : (l.set i e').Perm (m.set j e') := by
 obtain ⟨h1, h2⟩ := dm.1 hi
 obtain ⟨h3, h4⟩ := dm.1 hj
 have el : l = l.take i ++ e :: l.drop (i + 1) := by
  conv => lhs; rw [<- List.take_append_drop i l, fN h1, h2]
 have em : m = m.take j ++ e :: m.drop (j + 1) := by
  conv => lhs; rw [<- List.take_append_drop j m, fN h3, h4]
 rw [List.set_eq_take_append_cons_drop, if_pos h1, List.set_eq_take_append_cons_drop, if_pos h3]
 have hp : (l.take i ++ e :: l.drop (i + 1)).Perm (m.take j ++ e :: m.drop (j + 1)) := by rw [<- el, <- em]; exact h
 have h5 := (List.perm_middle.symm.trans hp).trans List.perm_middle
 have h6 := List.Perm.cons_inv h5
 exact (List.perm_middle.trans (h6.cons e')).trans List.perm_middle.symm
theorem run_checkKey {P : Program} {k : TypeId} {d : TypeDesc} {em : Bool} (hd : P.underlying k = some d) (hk : (∃ q, d = .int q) \/ d = .string) (n : Nat) (v : Value) : (Instr.checkKey em (n + 1) k v).run P w = .ok () w := by
 rcases hk with ⟨q, rfl⟩ | rfl <;> simp [Instr.checkKey, run_underlying hd]
theorem aD.set : ∀ {l : List AV} {vs : List Value} {x : AV} {u : Value} (i : Nat), aD g l vs -> ay g x u -> aD g (l.set i x) (vs.set i u)
 | [], _, _, _, _, h, _ => by simp only [aD] at h; subst h; simp [aD]
 | y :: ys, _, x, u, 0, h, hx => by
   simp only [aD] at h
   obtain ⟨v, vs, rfl, h1, h2⟩ := h
   simp only [List.set_cons_zero, aD]
   exact ⟨u, vs, rfl, hx, h2⟩
 | y :: ys, _, x, u, i + 1, h, hx => by
   simp only [aD] at h
   obtain ⟨v, vs, rfl, h1, h2⟩ := h
   simp only [List.set_cons_succ, aD]
   exact ⟨v, _, rfl, h1, aD.set i h2 hx⟩
theorem Dh {k v : AV} {e : MapEntry} (hk : ay g k e.key) (hv : ay g v e.val) : ∀ (ks vs : List AV) (l : List MapEntry), aD g ks (l.map (·.key)) -> aD g vs (l.map (·.val)) ->
 ∃ l' : List MapEntry, l'.Perm (e :: l) /\ aD g (fh k v ks vs).1 (l'.map (·.key)) /\ aD g (fh k v ks vs).2 (l'.map (·.val))
 | [], vs, l, h1, h2 => by
   simp only [aD, List.map_eq_nil_iff] at h1
   subst h1
   exact ⟨[e], List.Perm.refl _, by simp only [fh, dy, gP, aD]; exact ⟨_, _, rfl, hk, rfl⟩, by simp only [fh, dy, gP, aD]; exact ⟨_, _, rfl, hv, rfl⟩⟩
 | y :: ks, vs, [], h1, h2 => by simp [aD] at h1
 | y :: ks, [], f :: l, h1, h2 => by simp [aD] at h2
 | y :: ks, x :: vs, f :: l, h1, h2 => by
   simp only [fh]
   by_cases aJ : gD k y = true
   · rw [if_pos aJ]
     exact ⟨e :: f :: l, List.Perm.refl _, by rw [dy]; simp only [aD] at h1 ⊢; exact ⟨_, _, rfl, hk, h1⟩, by rw [dy]; simp only [aD] at h2 ⊢; exact ⟨_, _, rfl, hv, h2⟩⟩
   · rw [if_neg aJ]
     simp only [aD, dy, List.cons.injEq] at h1 h2
     obtain ⟨_, _, ⟨rfl, rfl⟩, hy, h1⟩ := h1
     obtain ⟨_, _, ⟨rfl, rfl⟩, hx, h2⟩ := h2
     obtain ⟨l', h3, h4, h5⟩ := Dh hk hv ks vs l h1 h2
     exact ⟨f :: l', ((h3.cons f).trans (List.Perm.swap e f l)), by simp only [dy, aD]; exact ⟨_, _, rfl, hy, h4⟩, by simp only [dy, aD]; exact ⟨_, _, rfl, hx, h5⟩⟩
theorem tH {k v : AV} : ∀ (ks vs : List AV) (z : AV), z ∈ (fh k v ks vs).1 -> z = k \/ z ∈ ks
 | [], vs, z, h => by simp [fh] at h; exact .inl h
 | y :: ks, vs, z, h => by
   simp only [fh] at h
   split at h
   · simpa using h
   · split at h
     · simp at h; exact .inl h
     · rename_i x xs
       simp only [ep] at h ⊢
       rcases h with h | h
       · exact .inr (.inl h)
       · rcases tH ks xs z h with h | h
         · exact .inl h
         · exact .inr (.inr h)
theorem xh {k v : AV} : ∀ (ks vs : List AV), mD ks -> (∀ y ∈ ks, gD k y = true \/ gD y k = true) -> mD (fh k v ks vs).1
 | [], vs, h1, h2 => by simp [fh, mD]
 | y :: ks, vs, h1, h2 => by
   unfold mD at h1 ⊢
   rw [List.pairwise_cons] at h1
   simp only [fh]
   split
   · rename_i aJ
     rw [List.pairwise_cons, List.pairwise_cons]
     refine ⟨fun z hz => ?_, h1⟩
     rcases ep.1 hz with rfl | hz
     · exact aJ
     · exact EO aJ (h1.1 z hz)
   · rename_i aJ
     split
     · simp
     · rename_i x xs
       rw [List.pairwise_cons]
       refine ⟨fun z hz => ?_, xh ks xs h1.2 fun z hz => h2 z (by simp [hz])⟩
       rcases tH ks xs z hz with rfl | hz
       · rcases h2 y (by simp) with h | h
         · exact absurd h aJ
         · exact h
       · exact h1.1 z hz
theorem iv.push {es : Array MapEntry} {clock : Nat} (h : iv es clock) (k v : Value) : iv (es.push ⟨k, v, clock⟩) (clock + 1) := by
 obtain ⟨h1, h2⟩ := h
 refine ⟨?_, fun e he => ?_⟩
 · simp only [Array.toList_push, List.map_append, dy, gP]
   rw [List.nodup_append]
   refine ⟨h1, by simp, fun a ha b hb => ?_⟩
   simp at hb
   subst hb
   obtain ⟨e, he, rfl⟩ := List.mem_map.1 ha
   exact Nat.ne_of_lt (h2 e he)
 · simp only [Array.toList_push, fC, lg] at he
   rcases he with he | rfl
   · have := h2 e he; omega
   · simp
theorem wP {es : Array MapEntry} {j : Nat} {e : MapEntry} (hj : es.toList[j]? = some e) (f : MapEntry -> MapEntry) : (es.modify j f).toList = es.toList.set j (f e) := by
 apply List.ext_getElem?
 intro i
 simp only [Array.toList_modify, List.getElem?_modify, List.getElem?_set]
 by_cases fM : j = i
 · subst fM
   have aJ := (dm.1 hj).1
   simp only [if_true, hj, if_pos aJ]; rfl
 · simp only [if_neg fM]
   cases es.toList[i]? <;> rfl
theorem iv.modify {es sy : Array MapEntry} {clock : Nat} (h : iv es clock) {j : Nat} {e e' : MapEntry} (hj : es.toList[j]? = some e) (hb : e'.born = e.born) (he : sy.toList = es.toList.set j e') : iv sy clock := by
 have hm : sy.toList.map (·.born) = es.toList.map (·.born) := by
  rw [he, List.map_set, hb]
  apply List.ext_getElem?
  intro i
  rw [List.getElem?_set]
  split
  · rename_i fM
    subst fM
    rw [kB, hj]
    have aJ := (dm.1 hj).1
    simp at aJ ⊢; exact aJ
  · rfl
 refine ⟨by rw [hm]; exact h.1, fun x hx => ?_⟩
 have : x.born ∈ sy.toList.map (·.born) := List.mem_map_of_mem hx
 rw [hm] at this
 obtain ⟨y, hy, hy2⟩ := List.mem_map.1 this
 rw [<- hy2]; exact h.2 y hy
theorem rv (h : aY g U w) {t : TypeId} {m k x : AV} {vm vk vx : Value} (hm : ay g m vm) (hk : ay g k vk) (hx : ay g x vx) :
 av.Fits C g U (n6 C.P t m k x U) ((do Instr.mapUpdate t vm vk vx; pure Next.skip : Sem Next).run C.P w) := by
 unfold n6
 split
 · rename_i fk e id ht
   split
   · rename_i ks vs CX
     obtain ⟨kt, hu, UL⟩ := vy ht
     obtain ⟨d, hd, CT⟩ : ∃ d, C.P.underlying kt = some d /\ ((fk = .i /\ ∃ q, d = .int q) \/ (fk = .s /\ d = .string)) := by
      rcases UL with ⟨rfl, q, hq⟩ | ⟨rfl, hq⟩
      · exact ⟨_, hq, .inl ⟨rfl, q, rfl⟩⟩
      · exact ⟨_, hq, .inr ⟨rfl, rfl⟩⟩
     have NQ : (∃ q, d = .int q) \/ d = .string := CT.imp (·.2) (·.2)
     simp only [ay] at hm
     obtain ⟨r, hr, rfl⟩ := hm
     obtain ⟨r', es, clock, q1, q2, q3, qb, ⟨l, q4, q5, q6, q7⟩, q8⟩ := h.mp id _ CX
     rw [hr] at q1; cases q1
     have po : (getObj r).run C.P w = .ok (.map es clock) w := by simp [getObj, Sem.run, q3]
     have IF := run_checkKey (P := C.P) (w := w) (em := false) hd NQ 9999 vk
     have tD : ∀ o, (setObj r o).run C.P w = .ok () { w with heap := w.heap.setIfInBounds r o } := fun o => by simp [setObj, Sem.run, q3]
     split
     · rename_i hf FE
       rcases xI (P := C.P) hd CT hk q4 q5 q6 hf with ⟨_, ha, hn⟩ | ⟨i, _, _, he, _⟩
       · simp only [Instr.mapUpdate, bK, run_underlying hu, bW, po, IF, Instr.findKey, run_underlying hd, hn, bY, tD]
         obtain ⟨l', p1, p2, p3⟩ := Dh (e := ⟨vk, vx, clock⟩) hk hx ks vs l q6 q7
         refine ⟨undef, _, g, .inr ⟨rfl, rfl⟩, Gh.Le.refl g, h.J4 CX (kv' := fh k x ks vs) hr q3 ⟨l', ?_, ?_, p2, p3⟩ (qb.push vk vx), by simp only [ay]; exact ⟨[], rfl, by simp [aD]⟩⟩
         · rw [Array.toList_push]
           exact (p1.trans (q4.cons _)).trans (List.perm_append_singleton _ _).symm
         · exact xh ks vs q5 fun y hy => NY (ha y hy)
       · cases he
     · rename_i i hf FE
       rcases xI (P := C.P) hd CT hk q4 q5 q6 hf with ⟨he, _⟩ | ⟨i', j, e, he, UJ, CW, IH, PI, hn⟩
       · cases he
       · cases he
         have yK := hn 0
         rw [ck] at yK
         have aJ : j < es.size := by
          have := (dm.1 IH).1
          simpa using this
         have Z8 : es[j]? = some e := by rw [<- iH]; exact IH
         have X0 : Instr.sameBits 10000 e.key vk = true := by
          rcases CT with ⟨rfl, _⟩ | ⟨rfl, _⟩ <;> cases k <;> simp only [nX, bq] at FE
          · simp only [ay] at hk PI; rw [hk, PI]; simp [Instr.sameBits]
          · simp only [ay] at hk PI; rw [hk, PI]; simp [Instr.sameBits, beq_toListBytes]
         have FL : (Instr.keyThatStays e.key vk).run C.P w = .ok vk w := by simp [Instr.keyThatStays, X0]
         have aaf : ((es[j]?).map (·.key)).getD vk = e.key := by rw [Z8]; rfl
         simp only [Instr.mapUpdate, bK, run_underlying hu, bW, po, IF, Instr.findKey, run_underlying hd, yK, bY, tD, aaf, FL]
         have US := wP IH (fun e => { e with key := vk, val := vx })
         refine ⟨undef, _, g, .inr ⟨rfl, rfl⟩, Gh.Le.refl g, h.J4 CX (kv' := (ks, vs.set i x)) hr q3 ⟨l.set i { e with key := vk, val := vx }, ?_, q5, ?_, ?_⟩ (qb.modify (e' := { e with key := vk, val := vx }) IH rfl US), by simp only [ay]; exact ⟨[], rfl, by simp [aD]⟩⟩
         · rw [US]; exact Oc q4 CW IH _
         · rw [List.map_set]
           have := q6.set i hk
           have e1 : ks.set i k = ks := by
            apply List.ext_getElem?
            intro a
            rw [List.getElem?_set]
            split
            · rename_i ha; subst ha
              split
              · exact UJ.symm
              · rename_i hn; exact absurd (dm.1 UJ).1 hn
            · rfl
           rw [e1] at this; exact this
         · rw [List.map_set]; exact q7.set i hx
     · trivial
   · trivial
 · trivial
theorem yX {fk : FK} {k z : AV} {ok : Bool} : ∀ (ks vs : List AV) (s : Nat), ks.length = vs.length -> kn fk k z ok ks vs = (match jG fk k ks s with
 | none => .bad
 | some none => .val (if ok then .aQ [z, .bool false] else z)
 | some (some i) => .val (if ok then .aQ [vs.getD (i - s) z, .bool true] else vs.getD (i - s) z))
 | [], [], s, _ => by simp [kn, jG]
 | [], _ :: _, s, h => by simp at h
 | _ :: _, [], s, h => by simp at h
 | y :: ks, v :: vs, s, h => by
   simp only [kn, jG]
   cases hb : fz fk k y with
   | none => rfl
   | some b =>
     cases b
     · simp only [bq, if_false]
       rw [yX ks vs (s + 1) (by simpa using h)]
       cases hf : jG fk k ks (s + 1) with
       | none => rfl
       | some r =>
         cases r with
         | none => rfl
         | some i =>
           rcases tw hf with ⟨h1, _⟩ | ⟨i', h1, _⟩
           · cases h1
           · cases h1
             have e1 : s + 1 + i' - (s + 1) = i' := by omega
             have e2 : s + 1 + i' - s = i' + 1 := by omega
             simp only [e1, e2, List.getD_cons_succ]
     · simp only [if_true, Nat.sub_self, List.getD_cons_zero]
theorem Dr (h : aY g U w) {t : TypeId} {m k : AV} {vm vk : Value} {ok : Bool} (hm : ay g m vm) (hk : ay g k vk) :
 av.Fits C g U (sQ C.P t m k ok U) ((do let r <- Instr.lookup t vm vk ok; pure (Next.value r) : Sem Next).run C.P w) := by
 unfold sQ
 split
 · rename_i fk e ks vs ht he
   split
   · rename_i z hz FE
     obtain ⟨kt, hu, UL⟩ := vy ht
     obtain ⟨d, hd, CT⟩ : ∃ d, C.P.underlying kt = some d /\ ((fk = .i /\ ∃ q, d = .int q) \/ (fk = .s /\ d = .string)) := by
      rcases UL with ⟨rfl, q, hq⟩ | ⟨rfl, hq⟩
      · exact ⟨_, hq, .inl ⟨rfl, q, rfl⟩⟩
      · exact ⟨_, hq, .inr ⟨rfl, rfl⟩⟩
     have NQ : (∃ q, d = .int q) \/ d = .string := CT.imp (·.2) (·.2)
     obtain ⟨i, vz, hi, qA, I9⟩ : ∃ i vz, C.P.info? e = some i /\ i.zero = some vz /\ AI vz = z := by
      unfold zeroV at hz
      cases hi : C.P.info? e with
      | none => simp [hi] at hz
      | some i =>
        cases lH : i.zero with
        | none => simp [hi, lH] at hz
        | some vz => simp [hi, lH] at hz; exact ⟨i, vz, rfl, lH, hz⟩
     have P6 : ay g z vz := by rw [<- I9]; exact zN vz
     obtain ⟨es, vg, l, hp, aar, h1, h2⟩ : ∃ es : Array MapEntry, ((vm = .map none /\ es = #[]) \/ ∃ r clock, vm = .map (some r) /\ w.heap[r]? = some (Obj.map es clock)) /\ th g ks vs es := by
      cases m <;> simp only [kg, reduceCtorEq, gr, jz] at he
      · obtain ⟨rfl, rfl⟩ := he
        simp only [ay] at hm; subst hm
        exact ⟨#[], .inl ⟨rfl, rfl⟩, [], List.Perm.refl _, by simp [mD], by simp [aD], by simp [aD]⟩
      · simp only [ay] at hm
        obtain ⟨r, hr, rfl⟩ := hm
        obtain ⟨r', es, clock, q1, q2, q3, _, q4, _⟩ := h.mp _ _ he
        rw [hr] at q1; cases q1
        exact ⟨es, .inr ⟨r, clock, rfl, q3⟩, q4⟩
      · obtain ⟨rfl, rfl⟩ := he
        simp only [ay] at hm
        obtain ⟨r, es, clock, l, rfl, hr, q0, q1, q2, q3⟩ := hm
        exact ⟨es, .inr ⟨r, clock, rfl, (h.bH r es clock hr).1⟩, l, q0, q1, q2, q3⟩
     have hlen : ks.length = vs.length := by
      have a := h1.length
      have b := h2.length
      simp at a b; omega
     rw [yX ks vs 0 hlen]
     cases hf : jG fk k ks 0 with
     | none => trivial
     | some r =>
       have IF := run_checkKey (P := C.P) (w := w) (em := es.isEmpty) hd NQ 9999 vk
       have key := xI (P := C.P) hd CT hk hp aar h1 hf
       have fin : ∀ q : Option (Nat × Value), Instr.findNow d vk es.toList 0 = some q -> (Instr.lookup t vm vk ok).run C.P w = (match q with
        | some (_, v) => .ok (if ok then .tuple #[v, .bool true] else v) w
        | none => .ok (if ok then .tuple #[vz, .bool false] else vz) w) := fun q hq => by
        rcases vg with ⟨rfl, rfl⟩ | ⟨r, clock, rfl, hh⟩
        · simp only [Instr.lookup, bK, run_underlying hu, bW, bY, IF, Instr.findKey, run_underlying hd, hq]
          cases q with
          | none => simp only [bY, bW, bK, fe hi qA]
          | some p => rfl
        · have po : (getObj r).run C.P w = .ok (Obj.map es clock) w := by simp [getObj, Sem.run, hh]
          simp only [Instr.lookup, bK, run_underlying hu, bW, bY, po, IF, Instr.findKey, run_underlying hd, hq]
          cases q with
          | none => simp only [bY, bW, bK, fe hi qA]
          | some p => rfl
       rcases key with ⟨rfl, _, hn⟩ | ⟨i, j, e, rfl, _, CW, _, _, hn⟩
       · simp only [bK, fin _ (hn 0), bW, bY]
         refine aT h ?_
         cases ok
         · exact P6
         · simp only [if_true, ay]
           exact ⟨[vz, .bool false], rfl, by simp only [aD]; exact ⟨_, _, rfl, P6, _, _, rfl, by simp only [ay], rfl⟩⟩
       · simp only [bK, fin _ (hn 0), bW, bY, Nat.sub_zero]
         have hv : ay g (vs.getD i z) e.val := by
          have aJ : i < vs.length := by
           have a := (dm.1 CW).1
           have b := h2.length
           simp at b; omega
          obtain ⟨v, hv, I6⟩ := h2.get (i := i) (x := vs[i]) (iZ aJ)
          rw [kB, CW] at hv
          simp at hv
          subst hv
          have : vs.getD i z = vs[i] := by simp [sa, aJ]
          rw [this]; exact I6
         refine aT h ?_
         cases ok
         · exact hv
         · simp only [if_true, ay]
           exact ⟨[e.val, .bool true], rfl, by simp only [aD]; exact ⟨_, _, rfl, hv, _, _, rfl, by simp only [ay], rfl⟩⟩
   · trivial
 · trivial
theorem Hs (h : aY g U w) : av.Fits C g U .BY (.ok (.value (.map (some w.heap.size))) (w.alloc (.map #[] 0))) := by
 obtain ⟨b, g', h1, h2, h3, h4⟩ := h.qF (.map #[] 0) 0 0 (.mp [] []) fun g' hle hi hm => ⟨#[], 0, heap_alloc_new w _, ⟨by simp, by simp⟩, ⟨[], List.Perm.refl _, by simp [mD], by simp [aD], by simp [aD]⟩, hm⟩
 exact ⟨_, _, g', b, rfl, h1, h2, h4, by simp only [NV.at, ay]; exact ⟨_, Gh.mM.2 ⟨_, h3, rfl⟩, rfl⟩⟩
end
end Go.Rip
namespace Go.Rip
open Go.RowKit
def aR (c a b : AV) : av :=
 match c with
 | .bool t => .val (if t = true then a else b)
 | _ => .bad
def wm (P : Program) (s f : Nat) : Option (Nat × Bool × Nat) :=
 match P.underlying s with
 | some (.struct fields) => match fields[f]? with
   | some x => match lh P x.type with
     | some (b, n) => some (x.offset, b, n)
     | none => none
   | none => none
 | _ => none
def u4 (P : Program) (s : TypeId) (x : AV) (f : Nat) : av :=
 match wm P s f, x with
 | some (o, true, n), .agg l => .cond (o + n <= l.length) (.val (.agg ((l.drop o).take n)))
 | some (o, false, _), .agg l => fW (l.drop o)
 | _, _ => .bad
def fY (P : Program) (f : AV) (args : List AV) : av :=
 match f with
 | .func (.func g) first cap => if dB P g = true then .enter g (first ++ args ++ cap) else .bad
 | .pj o => .yield o args
 | _ => .bad
def DO (P : Program) (t : TypeId) (m : AV) : av :=
 match n0 P t, m with
 | some _, .eI ks vs => .new .it none (.iter (ks.zip vs) none)
 | _, _ => .bad
def pT : List (AV × AV) -> List ((AV × AV) × List (AV × AV))
 | [] => []
 | x :: xs => (x, xs) :: (pT xs).map fun p => (p.1, x :: p.2)
def pS (i : AV) (U : St) : av :=
 match i with
 | .it o => match U.iter o with
   | some ([], _) => .val (.aQ [.bool false])
   | some (x :: xs, _) => .ji o ((pT (x :: xs)).map fun p => (.aQ [.bool true, p.1.1, p.1.2], .iter p.2 (some p.1)))
   | none => .bad
 | _ => .bad
def mE (i : AV) (U : St) : av :=
 match i with
 | .it o => match U.iter o with
   | some (_, some kv) => .val (.aQ [kv.1, kv.2])
   | _ => .bad
 | _ => .bad
def wh (P : Program) (t : TypeId) : Option AV :=
 match P.underlying t with
 | some (.interface _) => none
 | some _ => zeroV P t
 | none => none
def sg (P : Program) (x : AV) (t : TypeId) (ok : Bool) : av :=
 match wh P t, x with
 | some z, .iface u v => if u = t then .val (if ok then .aQ [v, .bool true] else v) else if ok then .val (.aQ [z, .bool false]) else .bad
 | some z, .cN => if ok then .val (.aQ [z, .bool false]) else .bad
 | _, _ => .bad
def pP (P : Program) (t : TypeId) (mu : Bool) (l c : AV) : av :=
 match dU P t, l, c with
 | some (e, sz), .int _ l, .int _ c => match mY P e with
   | some z => .cond (0 <= l /\ l = c /\ c <= 65536) (if mu then .lZ l.toNat sz e none (bL l.toNat z) else .kO l.toNat (bL l.toNat z) none ⟨l.toNat, e, sz⟩)
   | none => .bad
 | _, _, _ => .bad
def uX (P : Program) (t : TypeId) (x : AV) (U : St) : av :=
 match dU P t, x with
 | some (e, sz), .ms b off n gz _ => match U.box b, mY P e with
   | some l, some z => .cond (gz = sz /\ off + n * sz <= l.length) (.jD (.aQ []) b (.box (aA l off (bL n z))))
   | _, _ => .bad
 | _, _ => .bad
def yB (P : Program) (t u : TypeId) : Option (TypeId × Nat × List AV) :=
 match P.underlying u with
 | some (.int _) => match dU P t with
   | some (e, sz) => match mY P e with
     | some z => some (e, sz, z)
     | none => none
   | none => none
 | _ => none
def BS (q : TypeId × Nat × List AV) (mu : Bool) (s y : AV) : av :=
 match s, y with
 | .al, .int _ n => .cond (0 < n /\ n <= 65536) (if mu then .lZ n.toNat q.2.1 q.1 none (bL n.toNat q.2.2) else .kO n.toNat (bL n.toNat q.2.2) none ⟨n.toNat, q.1, q.2.1⟩)
 | _, _ => .bad
def Cv (st : Option (TypeId × Nat)) (x : AV) : av := match st, x with
 | some _, .al => .val (.int .i64 0)
 | _, _ => .bad
def wg (P : Program) (t u : TypeId) (mu : Bool) (s y : AV) (U : St) : av :=
 match yB P t u with
 | some q => BS q mu s y
 | none => zG P t u mu s y U
def wi (C : cu) (mu : Bool) (c : Call) (ρ : Env) (U : St) : av :=
 match c.callee, c.argTypes.toList, c.args.toList with
 | .value f, _, args => fY C.P (ρ.ev C f) (args.map (ρ.ev C))
 | .builtin .len, [t], [x] => Dp C.P t (ρ.ev C x) U
 | .builtin .append, [t, u], [s, y] => wg C.P t u mu (ρ.ev C s) (ρ.ev C y) U
 | .builtin .cap, [t], [x] => Cv (dU C.P t) (ρ.ev C x)
 | .builtin .min, _, [x, y] => rY (ρ.ev C x) (ρ.ev C y)
 | .builtin .max, _, [x, y] => xP (ρ.ev C x) (ρ.ev C y)
 | .builtin .clear, [t], [x] => uX C.P t (ρ.ev C x) U
 | _, _, _ => .bad
def gN (C : cu) (mu : Bool) (o : Op) (ρ : Env) (U : St) : av :=
 match o with
 | .move x | .assign x => .val (ρ.ev C x)
 | .pick c a b => aR (ρ.ev C c) (ρ.ev C a) (ρ.ev C b)
 | .alloc t => Ch C.P t
 | .box _ x => eH (ρ.ev C x)
 | .build t parts => Cr C.P t (jM C ρ parts)
 | .buildSlice t n parts => oV C.P t n mu (jM C ρ parts)
 | .insert t m k v | .mapUpdate t m k v => n6 C.P t (ρ.ev C m) (ρ.ev C k) (ρ.ev C v) U
 | .load t a => rn C.P t (ρ.ev C a) U
 | .store t a v => D1 C.P t (ρ.ev C a) (ρ.ev C v) U
 | .nilCheck x => bC (ρ.ev C x)
 | .binOp op t x y _ => Cq C.P op t (isLit x || isLit y) (ρ.ev C x) (ρ.ev C y)
 | .unOp op _ x => fo op (ρ.ev C x)
 | .convert s d x => BR C.P s d (ρ.ev C x)
 | .makeInterface t x => tN C.P t (ρ.ev C x)
 | .makeFunc fn first cap => .val (.func fn (first.toList.map (ρ.ev C)) (cap.toList.map (ρ.ev C)))
 | .makeMap _ none => .BY
 | .slice t x lo hi none => DV C.P t (ρ.ev C x) (lo.map (ρ.ev C)) (hi.map (ρ.ev C))
 | .fieldAddr s x f => tu C.P s (ρ.ev C x) f
 | .field s x f => u4 C.P s (ρ.ev C x) f
 | .indexAddr t x i => tG C.P t (ρ.ev C x) (ρ.ev C i)
 | .index t x i => yR C.P t (ρ.ev C x) (ρ.ev C i)
 | .lookup t m k ok => sQ C.P t (ρ.ev C m) (ρ.ev C k) ok U
 | .extract t i => bg (ρ.ev C t) i
 | .panic x => qK (ρ.ev C x)
 | .range t m => DO C.P t (ρ.ev C m)
 | .typeAssert x _ t ok => sg C.P (ρ.ev C x) t ok
 | .makeSlice t l c => pP C.P t mu (ρ.ev C l) (ρ.ev C c)
 | .next i false => pS (ρ.ev C i) U
 | .entry i => mE (ρ.ev C i) U
 | .call c => wi C mu c ρ U
 | _ => .bad
section
variable {C : cu} {g : Gh} {U : St} {w : World}
theorem zQ (h : aY g U w) {s f : Nat} {x : AV} {v : Value} (hx : ay g x v) : av.Fits C g U (u4 C.P s x f) ((do let r <- Instr.field s v f; pure (Next.value r) : Sem Next).run C.P w) := by
 unfold u4
 have key : ∀ {o b n}, wm C.P s f = some (o, b, n) -> ∃ fs y i d, C.P.underlying s = some (.struct fs) /\ fs[f]? = some y /\ y.offset = o /\ C.P.info? y.type = some i /\ C.P.underlying y.type = some d /\ zE d = b /\ i.size = n := fun {o b n} hf => by
  unfold wm at hf
  split at hf
  · rename_i fs hu
    split at hf
    · rename_i y hy
      split at hf
      · rename_i b' n' hv
        simp only [gr, jz] at hf
        obtain ⟨rfl, rfl, rfl⟩ := hf
        obtain ⟨i, d, h1, h2, h3, h4⟩ := lT hv
        exact ⟨fs, y, i, d, hu, hy, rfl, h1, h2, h3, h4⟩
      · cases hf
    · cases hf
  · cases hf
 split
 · rename_i o n l hf
   obtain ⟨fs, y, i, d, hu, hy, rfl, hi, hd, ha, rfl⟩ := key hf
   intro hle
   simp only [ay] at hx
   obtain ⟨vs, rfl, h1, hr⟩ := hx
   simp only [Instr.field, bK, run_underlying hu, bW, hy, asAgg, bY, part, jm hd, ha, if_true, dT, dF hi]
   refine aT h ?_
   simp only [ay]
   refine ⟨(vs.drop y.offset).take i.size, ?_, fun u hu => h1 u (List.mem_of_mem_drop (List.mem_of_mem_take hu)), (hr.drop _).take _⟩
   congr 1
   apply Array.ext'
   simp [List.extract_eq_take_drop]
 · rename_i o n l hf
   obtain ⟨fs, y, i, d, hu, hy, rfl, hi, hd, ha, rfl⟩ := key hf
   simp only [ay] at hx
   obtain ⟨vs, rfl, h1, hr⟩ := hx
   cases hl : l.drop y.offset with
   | nil => trivial
   | cons z zs =>
     have hz : l[y.offset]? = some z := by
      have := congrArg (fun l => l[0]?) hl
      simpa using this
     obtain ⟨u, mj, Vi⟩ := hr.get hz
     have e : vs.toArray[y.offset]? = some u := by simpa using mj
     simp only [Instr.field, bK, run_underlying hu, bW, hy, asAgg, bY, part, jm hd, ha, bq, if_false, dT, e]
     exact aT h Vi
 · trivial
theorem wk (hG : fP C g) {ρ : Env} {a : Act} (hr : fg g ρ a.tmps) : ∀ l : List Operand, aD g (l.map (ρ.ev C)) (l.map a.eval)
 | [] => by simp [aD]
 | x :: l => by simp only [dy, aD]; exact ⟨_, _, rfl, qn hG hr x, wk hG hr l⟩
theorem NA (h : aY g U w) {f : AV} {vf : Value} {args : List AV} {vs : List Value} (hf : ay g f vf) (ha : aD g args vs) :
 av.Fits C g U (fY C.P f args) ((do let d <- Deferred.ofValue vf vs.toArray; invoke d.target d.args : Sem Next).run C.P w) := by
 unfold fY
 split
 · rename_i q first cap
   split
   · rename_i he
     simp only [ay] at hf
     obtain ⟨fs, cs, rfl, h1, h2⟩ := hf
     unfold dB at he
     split at he
     · rename_i fn hfn
       simp only [bN, Bool.not_eq_true'] at he
       have hb : fn.body.isNone = false := by cases hb : fn.body <;> simp_all
       simp only [Deferred.ofValue, invoke, callFunc, bK, bY, bW, run_program, hfn, he.2, hb, bq, if_false, dT]
       exact ⟨fs ++ vs ++ cs, w, by simp, h, (h1.append ha).append h2⟩
     · cases he
   · trivial
 · rename_i o
   simp only [ay] at hf
   obtain ⟨x, hx, rfl⟩ := hf
   simp only [Deferred.ofValue, invoke, bK, bY, bW]
   exact ⟨vs, x, w, w, hx, by simp, rfl, h, ha⟩
 · trivial
theorem ya (h : aY g U w) {x : AV} {v : Value} {xt t : TypeId} {ok : Bool} (hx : ay g x v) :
 av.Fits C g U (sg C.P x t ok) ((do let r <- Instr.typeAssert v xt t ok; pure (Next.value r) : Sem Next).run C.P w) := by
 have key : ∀ {z : AV}, wh C.P t = some z -> ∃ d i vz, C.P.underlying t = some d /\ (∀ ms, d ≠ .interface ms) /\ C.P.info? t = some i /\ i.zero = some vz /\ ay g z vz := fun {z} hz => by
  unfold wh at hz
  split at hz
  · cases hz
  · rename_i d hn hd
    unfold zeroV at hz
    cases hi : C.P.info? t with
    | none => simp [hi] at hz
    | some i =>
      cases lH : i.zero with
      | none => simp [hi, lH] at hz
      | some vz => simp [hi, lH] at hz; exact ⟨d, i, vz, hd, fun ms e => hn ms e, rfl, lH, by rw [<- hz]; exact zN vz⟩
  · cases hz
 unfold sg
 split
 · rename_i z u y hz
   obtain ⟨d, i, vz, hd, hn, hi, lH, I9⟩ := key hz
   simp only [ay] at hx
   obtain ⟨q, rfl, hq⟩ := hx
   have fy : (Instr.typeAssert (.iface u q) xt t ok).run C.P w = (if u = t then .ok (if ok then .tuple #[q, .bool true] else q) w else if ok then .ok (.tuple #[vz, .bool false]) w else (Instr.typeAssert (.iface u q) xt t ok).run C.P w) := by
    by_cases hu : u = t
    · rw [if_pos hu]
      cases d <;> first
       | exact absurd rfl (hn _)
       | (cases ok <;> simp [Instr.typeAssert, run_underlying hd, hu])
    · rw [if_neg hu]
      cases ok
      · rfl
      · cases d <;> first
         | exact absurd rfl (hn _)
         | simp [Instr.typeAssert, run_underlying hd, hu, fe hi lH]
   split
   · rename_i hu
     rw [bK, fy, if_pos hu]
     refine aT h ?_
     cases ok
     · exact hq
     · simp only [if_true, ay, aD]; exact ⟨_, rfl, _, _, rfl, hq, _, _, rfl, rfl, rfl⟩
   · rename_i hu
     split
     · rename_i cD
       rw [bK, fy, if_neg hu, if_pos cD]
       exact aT h (by simp only [ay, aD]; exact ⟨_, rfl, _, _, rfl, I9, _, _, rfl, rfl, rfl⟩)
     · trivial
 · rename_i z hz
   obtain ⟨d, i, vz, hd, hn, hi, lH, I9⟩ := key hz
   simp only [ay] at hx
   subst hx
   split
   · rename_i cD
     subst cD
     have fy : (Instr.typeAssert .nilIface xt t true).run C.P w = .ok (.tuple #[vz, .bool false]) w := by
      cases d <;> first
       | exact absurd rfl (hn _)
       | simp [Instr.typeAssert, run_underlying hd, fe hi lH]
     rw [bK, fy]
     exact aT h (by simp only [ay, aD]; exact ⟨_, rfl, _, _, rfl, I9, _, _, rfl, rfl, rfl⟩)
   · trivial
 · trivial
theorem y6 (h : aY g U w) {t : TypeId} {mu : Bool} {l c : AV} {vl vc : Value} (hl : ay g l vl) (hc : ay g c vc) :
 av.Fits C g U (pP C.P t mu l c) ((do let x <- Instr.makeSlice t vl vc; pure (Next.value x) : Sem Next).run C.P w) := by
 unfold pP
 split
 · rename_i e sz kl l kc c hs
   split
   · rename_i z hz
     rintro ⟨h0, rfl, h1⟩
     obtain ⟨i, zv, hu, hi, lH, sK, dG, oD, hb, _⟩ := gg hs
     obtain ⟨i', WI, il, A9, hm⟩ := kI hz
     rw [hi] at il; cases il
     rw [lH] at A9; cases A9
     obtain ⟨h2, h3⟩ := dE (g := g) hm
     simp only [ay] at hl hc
     subst hl hc
     have Ut : (i.bytes : Int) * l <= 281474976710656 := by
      have e1 : (i.bytes : Int) * l <= 32768 * l := Int.mul_le_mul_of_nonneg_right (by omega) h0
      omega
     have fy := run_make (P := C.P) w t e i zv hu hi lH kl kc l l h0 (Int.le_refl _) Ut (by omega)
     have vn := pZ (g := g) h2 l.toNat
     have UR : madeCells zv.cells (l.toNat * i.size) = (Array.range (l.toNat * zv.cells.size)).map (zv.cells[· % zv.cells.size]!) := by rw [dG, <- sK]; rfl
     have rU : ∀ u ∈ (madeCells zv.cells (l.toNat * i.size)).toList, u.oneCell' = true := fun u hu => by
      rw [UR] at hu
      simp only [Array.toList_map, List.mem_map] at hu
      obtain ⟨j, _, rfl⟩ := hu
      have aJ : j % zv.cells.size < zv.cells.size := Nat.mod_lt _ (by omega)
      rw [getElem!_pos zv.cells _ aJ]
      exact h3 _ (by simp)
     rw [<- UR] at vn
     have hlen : (madeCells zv.cells (l.toNat * i.size)).toList.length = l.toNat * sz := by rw [UR]; simp [sK]
     have Db : z.length = sz := by have := h2.length; simp at this; omega
     simp only [bK, fy, bW, bY]
     cases mu
     · have := mG (C := C) (del := none) (e := e) (sz := sz) (n := l.toNat) (c := l.toNat) h (vs := (madeCells zv.cells (l.toNat * i.size)).toList) (rest := []) vn rU (by simp) (by rw [je, Db]) (by simpa using hlen) (df _) (by unfold maxLen; omega)
       simpa using this
     · have := nR (C := C) (del := none) (e := e) (sz := sz) (n := l.toNat) (c := l.toNat) h (vs := (madeCells zv.cells (l.toNat * i.size)).toList) (rest := []) vn rU (by simp) (by simpa using hlen) (df _) (by unfold maxLen; omega)
       simpa using this
   · trivial
 · trivial
theorem Ev (h : aY g U w) {t ty : TypeId} {x : AV} {v : Value} (hx : ay g x v) :
 av.Fits C g U (uX C.P t x U) ((do let r <- Builtin.clear_ #[t] ty #[v]; pure (Next.value r) : Sem Next).run C.P w) := by
 unfold uX
 split
 · rename_i e sz b off n gz e' hs
   split
   · rename_i l z hb hz
     rintro ⟨rfl, h1⟩
     obtain ⟨i, zv, hu, hi, lH, sK, dG, oD, _⟩ := gg hs
     obtain ⟨i', WI, il, A9, hm⟩ := kI hz
     rw [hi] at il; cases il
     rw [lH] at A9; cases A9
     obtain ⟨h2, h3⟩ := dE (g := g) hm
     simp only [ay] at hx
     obtain ⟨y, c, hy, rfl, _⟩ := hx
     have Db : z.length = gz := by have := h2.length; simp at this; omega
     have vn := pZ (g := g) h2 n
     have Vh : Builtin.zeroCells zv.cells n = (Array.range (n * zv.cells.size)).map (zv.cells[· % zv.cells.size]!) := rfl
     obtain ⟨w', eW, dA⟩ := sW (C := C) (off := off) h hb hy vn (jI h3 n (by omega)) (by rw [je, Db]; exact h1)
     rw [<- Vh] at eW
     by_cases hn : n = 0
     · subst hn
       have e0 : U.bT b (aA l off (bL 0 z)) = U.bT b l := by simp [aA, bL]
       simp only [Builtin.clear_, bK, bY, bW]
       simp [run_underlying hu]
       refine ⟨_, w, g, .inl rfl, Gh.Le.refl g, ?_, by simp only [ay]; exact ⟨[], rfl, by simp [aD]⟩⟩
       show aY g (U.bT b (aA l off (bL 0 z))) w
       rw [e0]; exact h.Yc hb
     · have hz2 := fe (P := C.P) hi lH w
       have Uu : (Builtin.clear_ #[t] ty #[.slice (some ⟨y.aH, off, none⟩) n c]).run C.P w = .ok (.tuple #[]) w' := by
        simp [Builtin.clear_, run_underlying hu, hz2, eW, hn]
       simp only [bK, Uu, bW, bY]
       exact ⟨_, w', g, .inl rfl, Gh.Le.refl g, dA, by simp only [ay]; exact ⟨[], rfl, by simp [aD]⟩⟩
   · trivial
 · trivial
theorem xy : ∀ {ks vs : List AV}, ks.length = vs.length -> (ks.zip vs).map (·.1) = ks
 | [], [], _ => rfl
 | [], _ :: _, h => by simp at h
 | _ :: _, [], h => by simp at h
 | k :: ks, v :: vs, h => by simp only [List.zip_cons_cons, dy]; rw [xy (by simpa using h)]
theorem xz : ∀ {ks vs : List AV}, ks.length = vs.length -> (ks.zip vs).map (·.2) = vs
 | [], [], _ => rfl
 | [], _ :: _, h => by simp at h
 | _ :: _, [], h => by simp at h
 | k :: ks, v :: vs, h => by simp only [List.zip_cons_cons, dy]; rw [xz (by simpa using h)]
theorem EY (h : aY g U w) {t : TypeId} {m : AV} {v : Value} (hm : ay g m v) : av.Fits C g U (DO C.P t m) ((do let x <- Instr.range t v; pure (Next.value x) : Sem Next).run C.P w) := by
 unfold DO
 split
 · rename_i p ks vs ht
   obtain ⟨fk, e⟩ := p
   obtain ⟨kt, hu, _⟩ := vy ht
   simp only [ay] at hm
   obtain ⟨r, es, clock, l, rfl, hr, hp, hs, h1, h2⟩ := hm
   obtain ⟨q1, q2⟩ := h.bH r es clock hr
   have hlen : ks.length = vs.length := by
    have a := h1.length
    have b := h2.length
    simp at a b; omega
   have po : (getObj r).run C.P w = .ok (.map es clock) w := by simp [getObj, Sem.run, q1]
   obtain ⟨b, g', f1, f2, f3, f4⟩ := h.qF (.mapIter (some r) clock #[] clock) 0 0 (.iter (ks.zip vs) none) fun g' hle hi IQ =>
    ⟨r, es, clock, #[], heap_alloc_new w _, hle.bH _ _ hr, ⟨l, by
      have : (es.toList.filter fun e => !(#[] : Array Nat).contains e.born) = es.toList := by simp
      rw [this]; exact hp, by rw [xy hlen]; exact h1.mono hle, by rw [xz hlen]; exact h2.mono hle⟩, trivial⟩
   simp only [Instr.range, bK, run_underlying hu, bW, po, bY, run_newObj]
   exact ⟨_, _, g', b, rfl, f1, f2, f4, by simp only [NV.at, ay]; exact ⟨_, f3, rfl⟩⟩
 · trivial
theorem Bv : ∀ {l : List (AV × AV)} {i : Nat} {x : AV × AV}, l[i]? = some x -> (x, l.eraseIdx i) ∈ pT l
 | [], i, x, h => by simp at h
 | y :: l, 0, x, h => by simp at h; subst h; simp [pT]
 | y :: l, i + 1, x, h => by
   simp only [List.getElem?_cons_succ] at h
   simp only [pT, List.eraseIdx_cons_succ, ep, List.mem_map]
   exact .inr ⟨_, Bv h, rfl⟩
theorem aD.eraseIdx : ∀ {l : List AV} {vs : List Value} (i : Nat), aD g l vs -> aD g (l.eraseIdx i) (vs.eraseIdx i)
 | [], _, _, h => by simp only [aD] at h; subst h; simp [aD]
 | y :: ys, _, 0, h => by
   simp only [aD] at h
   obtain ⟨v, vs, rfl, h1, h2⟩ := h
   simpa using h2
 | y :: ys, _, i + 1, h => by
   simp only [aD] at h
   obtain ⟨v, vs, rfl, h1, h2⟩ := h
   simp only [List.eraseIdx_cons_succ, aD]
   exact ⟨v, _, rfl, h1, aD.eraseIdx i h2⟩
theorem kN {α β : Type} (f : α -> β) : ∀ (l : List α) (i : Nat), (l.eraseIdx i).map f = (l.map f).eraseIdx i
 | [], i => by simp
 | x :: l, 0 => by simp
 | x :: l, i + 1 => by simp [kN f l i]
theorem BN {α : Type} {l m : List α} (h : l.Perm m) {i j : Nat} {e : α} (hi : l[i]? = some e) (hj : m[j]? = some e) : (l.eraseIdx i).Perm (m.eraseIdx j) := by
 obtain ⟨h1, h2⟩ := dm.1 hi
 obtain ⟨h3, h4⟩ := dm.1 hj
 have el : l = l.take i ++ e :: l.drop (i + 1) := by
  conv => lhs; rw [<- List.take_append_drop i l, fN h1, h2]
 have em : m = m.take j ++ e :: m.drop (j + 1) := by
  conv => lhs; rw [<- List.take_append_drop j m, fN h3, h4]
 have hp : (l.take i ++ e :: l.drop (i + 1)).Perm (m.take j ++ e :: m.drop (j + 1)) := by rw [<- el, <- em]; exact h
 have h5 := (List.perm_middle.symm.trans hp).trans List.perm_middle
 rw [List.eraseIdx_eq_take_drop_succ, List.eraseIdx_eq_take_drop_succ]
 exact List.Perm.cons_inv h5
theorem EC {es : List MapEntry} (hn : (es.map (·.born)).Nodup) {seen : Array Nat} {e : MapEntry} {j : Nat} (hj : (es.filter fun x => !seen.contains x.born)[j]? = some e) :
 (es.filter fun x => !(seen.push e.born).contains x.born) = (es.filter fun x => !seen.contains x.born).eraseIdx j := by
 have e1 : (es.filter fun x => !(seen.push e.born).contains x.born) = (es.filter fun x => !seen.contains x.born).filter fun x => x.born != e.born := by
  rw [List.filter_filter]
  apply List.filter_congr
  intro x _
  simp only [Array.contains_push, Bool.not_or]
  rw [Bool.and_comm]
  congr 1
 rw [e1]
 have FG : ((es.filter fun x => !seen.contains x.born).map (·.born)).Nodup := List.Nodup.sublist (List.Sublist.map _ List.filter_sublist) hn
 generalize (es.filter fun x => !seen.contains x.born) = l at hj FG
 clear e1 hn es
 induction l generalizing j with
 | nil => simp at hj
 | cons y l ih =>
   simp only [dy, List.nodup_cons] at FG
   cases j with
   | zero =>
     simp at hj; subst hj
     simp only [List.filter_cons, bne_self_eq_false, bq, if_false, List.eraseIdx_zero, List.tail_cons]
     rw [List.filter_eq_self]
     intro x hx
     simp only [bne_iff_ne, ne_eq]
     intro he
     exact FG.1 (he ▸ List.mem_map_of_mem hx)
   | succ j =>
     simp only [List.getElem?_cons_succ] at hj
     have bQ : y.born ≠ e.born := fun he => FG.1 (he ▸ List.mem_map_of_mem (fi hj))
     simp only [List.filter_cons, bne_iff_ne, ne_eq, bQ, not_false_eq_true, if_true, List.eraseIdx_cons_succ]
     rw [ih hj FG.2]
theorem Ht (h : aY g U w) {i : AV} {v : Value} {ty : TypeId} (hi : ay g i v) : av.Fits C g U (pS i U) ((do let x <- Instr.next v false ty; pure (Next.value x) : Sem Next).run C.P w) := by
 unfold pS
 split
 · rename_i o
   simp only [ay] at hi
   obtain ⟨p, hp, rfl⟩ := hi
   split
   · rename_i cur hit
     obtain ⟨p', k1, k2, m, es, clock, seen, k3, k4, ⟨l, k5, k6, k7⟩, k8⟩ := h.live o _ (St.tK.1 hit)
     rw [hp] at k1; cases k1
     obtain ⟨q1, q2⟩ := h.bH m es clock k4
     simp only [gP, aD, List.map_eq_nil_iff] at k6
     subst k6
     have zW := k5.symm.eq_nil
     have IJ : (getObj p.aH).run C.P w = .ok (.mapIter (some m) clock seen clock) w := by simp [getObj, Sem.run, k3]
     have IK : (getObj m).run C.P w = .ok (.map es clock) w := by simp [getObj, Sem.run, q1]
     have GU : (!seen.isEmpty && !es.isEmpty && es.all (fun e => decide (e.born >= clock))) = false := by
      cases he : es.isEmpty
      · have : es.all (fun e => decide (e.born >= clock)) = false := by
         rw [Array.all_eq_false]
         have h0 : 0 < es.size := by
          rcases Nat.eq_zero_or_pos es.size with h0 | h0
          · simp [Array.isEmpty, h0] at he
          · exact h0
         refine ⟨0, h0, ?_⟩
         have := q2.2 es[0] (by simp)
         simp; omega
        simp [this]
      · simp
     have XS : (es.filter fun e => !seen.contains e.born) = #[] := by
      apply Array.ext'
      simpa using zW
     simp only [Instr.next, bK, IJ, bW, IK, GU, dT, bq, if_false, bY, XS]
     have e2 : (#[] : Array MapEntry).filter (fun e => decide (e.born < clock)) = #[] := by simp
     have e3 : (#[] : Array MapEntry).filter (fun e => decide (e.born >= clock)) = #[] := by simp
     simp [choose, Sem.run, Question.forced, Result.andThen]
     exact aT h (by simp only [ay, aD]; exact ⟨[.bool false], rfl, _, _, rfl, rfl, rfl⟩)
   · rename_i x xs cur hit
     obtain ⟨p', k1, k2, m, es, clock, seen, k3, k4, ⟨l, k5, k6, k7⟩, k8⟩ := h.live o _ (St.tK.1 hit)
     rw [hp] at k1; cases k1
     obtain ⟨q1, q2⟩ := h.bH m es clock k4
     have IJ : (getObj p.aH).run C.P w = .ok (.mapIter (some m) clock seen clock) w := by simp [getObj, Sem.run, k3]
     have GU : (!seen.isEmpty && !es.isEmpty && es.all (fun e => decide (e.born >= clock))) = false := by
      cases he : es.isEmpty
      · have : es.all (fun e => decide (e.born >= clock)) = false := by
         rw [Array.all_eq_false]
         have h0 : 0 < es.size := by
          rcases Nat.eq_zero_or_pos es.size with h0 | h0
          · simp [Array.isEmpty, h0] at he
          · exact h0
         refine ⟨0, h0, ?_⟩
         have := q2.2 es[0] (by simp)
         simp; omega
        simp [this]
      · simp
     generalize hL : (es.filter fun e => !seen.contains e.born) = L
     have yD : (es.toList.filter fun e => !seen.contains e.born) = L.toList := by rw [<- hL]; simp
     rw [yD] at k5
     have kj : ∀ e ∈ L.toList, e ∈ es.toList := fun e he => by rw [<- yD] at he; exact (List.mem_filter.1 he).1
     have hlen : l.length = xs.length + 1 := by have := k6.length; simpa using this
     have IA : L.size = xs.length + 1 := by rw [<- hlen, k5.length_eq]; simp
     have hold : L.filter (fun e => decide (e.born < clock)) = L := by
      apply Array.ext'
      rw [Array.toList_filter, List.filter_eq_self]
      intro e he
      have := q2.2 e (kj e he)
      simpa using this
     have na : L.filter (fun e => decide (e.born >= clock)) = #[] := by
      apply Array.ext'
      rw [Array.toList_filter]
      apply List.filter_eq_nil_iff.2
      intro e he
      have := q2.2 e (kj e he)
      simp; omega
     have hem : L.isEmpty = false := by simp [Array.isEmpty, IA]
     have key : ∀ (w1 : World) (c : Nat), w1.heap = w.heap -> w1.os = w.os -> w1.tape = w.tape -> w1.output = w.output -> c < L.size ->
      ∀ e, L[c]? = some e -> ∃ u w' g' v x', (setObj p.aH (.mapIter (some m) clock (seen.push e.born) clock)).run C.P w1 = .ok () w' /\ u = Value.tuple #[.bool true, e.key, e.val] /\
       (v, x') ∈ (pT (x :: xs)).map (fun p => (AV.aQ [.bool true, p.1.1, p.1.2], Live.iter p.2 (some p.1))) /\ Gh.Le g g' /\ aY g' (U.set o x') w' /\ ay g' v u := fun w1 c e1 e2 e3 e4 hc e he => by
      have jC : L.toList[c]? = some e := by rw [iH]; exact he
      obtain ⟨a, ha⟩ := List.getElem?_of_mem (k5.mem_iff.2 (fi jC))
      have CN : a < (x :: xs).length := by
       have := (dm.1 ha).1
       rw [hlen] at this; simpa using this
      have P5 : (x :: xs)[a]? = some ((x :: xs)[a]) := iZ CN
      generalize (x :: xs)[a] = kv at P5
      obtain ⟨vk, pE, nE⟩ := k6.get (i := a) (x := kv.1) (by rw [kB, P5]; rfl)
      obtain ⟨vv, Vc, fm⟩ := k7.get (i := a) (x := kv.2) (by rw [kB, P5]; rfl)
      rw [kB, ha] at pE Vc
      simp at pE Vc
      subst pE Vc
      have tD : (setObj p.aH (.mapIter (some m) clock (seen.push e.born) clock)).run C.P w1 = .ok () { w1 with heap := w1.heap.setIfInBounds p.aH (.mapIter (some m) clock (seen.push e.born) clock) } := by
       simp [setObj, Sem.run, e1, k3]
      have aJ := (iE.1 k3).1
      refine ⟨_, _, g, _, _, tD, rfl, List.mem_map.2 ⟨_, Bv P5, rfl⟩, Gh.Le.refl g, ?_, ?_⟩
      · refine h.rewrite (St.tK.1 hit) hp ⟨e2, e3, e4, by simp [e1]⟩ (fun k hk _ => by simp only [e1]; exact Array.getElem?_setIfInBounds_ne (Ne.symm hk)) (fun o => ?_) ?_ ?_
        · cases ei : g.bM p.aH o with
          | none => rfl
          | some u => have := (h.bM _ _ _ ei).1; simp [World.cell?, k3] at this
        · cases ei : g.bH p.aH with
          | none => rfl
          | some u => have := (h.bH _ _ _ ei).1; rw [k3] at this; cases this
        · refine ⟨m, es, clock, seen.push e.born, by simp [e1, aJ], k4, ⟨l.eraseIdx a, ?_, ?_, ?_⟩, e, ?_, by simp, nE, fm⟩
          · have wY : (es.toList.filter fun e => !seen.contains e.born)[c]? = some e := by rw [yD]; exact jC
            rw [EC q2.1 wY, yD]
            exact BN k5 ha jC
          · rw [kN, kN]; exact k6.eraseIdx a
          · rw [kN, kN]; exact k7.eraseIdx a
          · exact kj e (fi jC)
      · simp only [ay, aD]
        exact ⟨_, rfl, _, _, rfl, rfl, _, _, rfl, nE, _, _, rfl, fm, rfl⟩
     have CY : ∀ (n : Nat) (w1 : World), (choose (.mapNext L.size)).run C.P w = .ok n w1 -> w1.heap = w.heap -> w1.os = w.os -> w1.tape = w.tape -> w1.output = w.output -> n < L.size ->
      av.Fits C g U (.ji o ((pT (x :: xs)).map fun p => (.aQ [.bool true, p.1.1, p.1.2], .iter p.2 (some p.1)))) ((do let x <- Instr.next (.pointer (some ⟨p.aH, 0, none⟩)) false ty; pure (Next.value x) : Sem Next).run C.P w) := fun n w1 hch e1 e2 e3 e4 hn => by
      have IK : (getObj m).run C.P w = .ok (.map es clock) w := by simp [getObj, Sem.run, q1]
      have Um : L[n]? = some L[n] := by simp [hn]
      generalize L[n] = e at Um
      obtain ⟨u, w', g', v, x', r1, r2, r3, r4, r5, r6⟩ := key w1 n e1 e2 e3 e4 hn e Um
      have XK : ((#[] : Array (Option MapEntry)) ++ (L ++ #[]).map some).size = L.size := by simp
      have hcn : ((#[] : Array (Option MapEntry)) ++ (L ++ #[]).map some)[n]? = some (some e) := by simp [Um]
      simp only [Instr.next, bK, IJ, bW, IK, GU, dT, bq, if_false, bY, hL, hold, na, hem, XK, hch, hcn, r1]
      exact ⟨_, w', g', v, x', rfl, r3, r4, r5, by rw [<- r2]; exact r6⟩
     by_cases hf : L.size <= 1
     · refine CY 0 w ?_ rfl rfl rfl rfl (by omega)
       simp [choose, Sem.run, Question.forced, hf]
     · refine CY (w.tape w.drawn (.mapNext L.size) % L.size) w.drew ?_ rfl rfl rfl rfl (Nat.mod_lt _ (by omega))
       have hfq : Question.forced (.mapNext L.size) = false := by simp only [Question.forced, decide_eq_false_iff_not]; exact hf
       simp only [choose, Sem.run, hfq, bq, if_false, Question.cut]
       rfl
   · trivial
 · trivial
theorem Ez (h : aY g U w) {i : AV} {v : Value} (hi : ay g i v) : av.Fits C g U (mE i U) ((do let x <- Instr.entry v; pure (Next.value x) : Sem Next).run C.P w) := by
 unfold mE
 split
 · rename_i o
   simp only [ay] at hi
   obtain ⟨p, hp, rfl⟩ := hi
   split
   · rename_i rest kv hit
     obtain ⟨p', k1, k2, m, es, clock, seen, k3, k4, _, e, k5, k6, k7, k8⟩ := h.live o _ (St.tK.1 hit)
     rw [hp] at k1; cases k1
     obtain ⟨q1, q2⟩ := h.bH m es clock k4
     have IJ : (getObj p.aH).run C.P w = .ok (.mapIter (some m) clock seen clock) w := by simp [getObj, Sem.run, k3]
     have IK : (getObj m).run C.P w = .ok (.map es clock) w := by simp [getObj, Sem.run, q1]
     have GX : es.find? (fun x => x.born == e.born) = some e := by
      rw [<- Array.find?_toList]
      have hn := q2.1
      generalize es.toList = l at k5 hn
      induction l with
      | nil => simp at k5
      | cons y l ih =>
        simp only [dy, List.nodup_cons] at hn
        rw [List.find?_cons]
        rcases ep.1 k5 with rfl | hm
        · simp
        · have : (y.born == e.born) = false := by
           simp only [beq_eq_false_iff_ne, ne_eq]
           intro he
           exact hn.1 (he ▸ List.mem_map_of_mem hm)
          rw [this]
          exact ih hm hn.2
     simp only [Instr.entry, bK, IJ, bW, k6, IK, bne_self_eq_false, bq, if_false, dT, bY, GX]
     exact aT h (by simp only [ay, aD]; exact ⟨_, rfl, _, _, rfl, k7, _, _, rfl, k8, rfl⟩)
   · trivial
 · trivial
theorem wS (hG : fP C g) {ρ : Env} {a : Act} (hr : fg g ρ a.tmps) (parts : Array (Nat × Operand)) :
 (parts.map fun (i, x) => (i, a.eval x)).size = (jM C ρ parts).length /\ ∀ (i : Nat) (p : Nat × AV) (q : Nat × Value), (jM C ρ parts)[i]? = some p -> (parts.map fun (i, x) => (i, a.eval x))[i]? = some q -> p.1 = q.1 /\ ay g p.2 q.2 := by
 refine ⟨by simp [jM], fun i p q h1 h2 => ?_⟩
 simp only [jM, kB, iH, mA] at h1
 obtain ⟨y, hy, rfl⟩ := h1
 simp only [Array.getElem?_map, hy, Option.map_some, gr] at h2
 subst h2
 exact ⟨rfl, qn hG hr _⟩
theorem F8 (hG : fP C g) {ρ : Env} {a : Act} (hr : fg g ρ a.tmps) (x : Option Operand) : match x.map (ρ.ev C), x.map a.eval with | none, none => True | some x, some u => ay g x u | _, _ => False := by
 cases x with
 | none => trivial
 | some x => exact qn hG hr x
theorem zh {P : Program} {w : World} {t u ty e : TypeId} {i : TypeInfo} {z : Value} {k k' : IntKind} (ht : P.underlying t = some (.slice e)) (hu : P.underlying u = some (.int k')) (hi : P.info? e = some i) (hz : i.zero = some z) (yE : i.bytes <= 32768) (hp : 0 < i.size)
 {n : Nat} (h0 : 0 < n) (hn : n <= 65536) :
 (Builtin.append_ #[t, u] ty #[.slice none 0 0, .int k (n : Int)]).run P w =
   .ok (.slice (some ⟨w.heap.size, 0, none⟩) n (grownCap w n 0 e))
    (w.drew.alloc (.cells (Builtin.zeroCells z.cells n ++ Builtin.zeroCells z.cells (grownCap w n 0 e - n)) e)) := by
 have X2 : IntKind.i64.wrap (n : Int) = n := uv ⟨by omega, by omega⟩
 have NJ : ¬ (9223372036854775807 < (n : Int)) := by omega
 have gK : n * i.bytes <= 140737488355328 := Nat.le_trans (Nat.mul_le_mul hn yE) (by omega)
 have AQ := growslice_fits (old := 0) (need := n) (bytes := i.bytes) (by omega) gK
 have NI : ¬ (281474976710656 < Builtin.nextslicecap n 0 * i.bytes) := by omega
 have jN : ¬ ((281474976710656 : Int) < (n : Int) * (i.bytes : Int)) := by
  have : (n : Int) * (i.bytes : Int) = ((n * i.bytes : Nat) : Int) := by simp
  omega
 have hns : ¬ (n = 0 \/ i.size = 0) := by omega
 have aai : ¬ ((n : Int) < 0) := by omega
 simp [Builtin.append_, run_underlying ht, run_underlying hu, sizeOf, typeInfo, zeroValue, hi, hz, X2, NJ, NI, jN, hns, aai, Question.forced, newRow, grownCap, asInt, asIntOf, Builtin.firstCells]
 have e1 : n ≠ 0 := by omega
 have e2 : n * i.size ≠ 0 := Nat.mul_ne_zero e1 (by omega)
 rw [if_neg e1, if_neg e2]
theorem GQ {P : Program} {t u : TypeId} {q : TypeId × Nat × List AV} (h : yB P t u = some q) : ∃ k, P.underlying u = some (.int k) /\ dU P t = some (q.1, q.2.1) /\ mY P q.1 = some q.2.2 := by
 unfold yB at h
 split at h
 · rename_i k hu
   split at h
   · rename_i e sz hs
     split at h
     · rename_i z hz
       cases h
       exact ⟨k, hu, hs, hz⟩
     · cases h
   · cases h
 · cases h
theorem GP (h : aY g U w) {t u ty : TypeId} {mu : Bool} {q : TypeId × Nat × List AV} (hq : yB C.P t u = some q) {s y : AV} {v v2 : Value} (hs : ay g s v) (hy : ay g y v2) :
 av.Fits C g U (BS q mu s y) ((do let r <- Builtin.append_ #[t, u] ty #[v, v2]; pure (Next.value r) : Sem Next).run C.P w) := by
 obtain ⟨k', hu, pD, hz⟩ := GQ hq
 unfold BS
 split
 · rename_i k n
   rintro ⟨h0, h1⟩
   obtain ⟨i, zv, ht, hi, lH, sK, dG, oD, yE, Zo⟩ := gg pD
   obtain ⟨i', WI, il, A9, hm⟩ := kI hz
   rw [hi] at il; cases il
   rw [lH] at A9; cases A9
   obtain ⟨h2, h3⟩ := dE (g := g) hm
   simp only [ay] at hs hy
   subst hs hy
   obtain ⟨m, rfl⟩ : ∃ m : Nat, n = m := ⟨n.toNat, by omega⟩
   simp only [ej]
   have fZ := grownCap_ge w m 0 q.1
   have hle := grownCap_le_maxLen w m 0 q.1 (by unfold maxLen; omega)
   rw [bK, zh (k := k) ht hu hi lH yE (by omega) (by omega) (by omega)]
   have dA := h.grow (iw w)
   have vn := pZ (g := g) h2 m
   have Db : q.2.2.length = i.size := by have := h2.length; simp at this; omega
   have rU := jI h3 m (by omega)
   have PW := jI h3 (grownCap w m 0 q.1 - m) (by omega)
   have hlen : (Builtin.zeroCells zv.cells m).toList.length + (Builtin.zeroCells zv.cells (grownCap w m 0 q.1 - m)).toList.length = grownCap w m 0 q.1 * q.2.1 := by
    rw [pr, pr, size_zeroCells, size_zeroCells, sK, <- Nat.add_mul, <- dG]
    congr 1; omega
   have ew : Builtin.zeroCells zv.cells m ++ Builtin.zeroCells zv.cells (grownCap w m 0 q.1 - m) = ((Builtin.zeroCells zv.cells m).toList ++ (Builtin.zeroCells zv.cells (grownCap w m 0 q.1 - m)).toList).toArray := by simp
   rw [ew]
   simp only [bW, bY]
   cases mu
   · exact mG dA vn rU PW (by rw [je, Db, dG]) hlen fZ hle
   · exact nR dA vn rU PW hlen fZ hle
 · trivial
theorem H6 (h : aY g U w) {t ty : TypeId} {x : AV} {v : Value} (hx : ay g x v) :
 av.Fits C g U (Cv (dU C.P t) x) ((do let r <- Builtin.cap_ #[t] ty #[v]; pure (Next.value r) : Sem Next).run C.P w) := by
 unfold Cv
 split
 · rename_i q hq
   obtain ⟨e, sz⟩ := q
   obtain ⟨i, z, ht, _⟩ := gg hq
   simp only [ay] at hx
   subst hx
   have : (Builtin.cap_ #[t] ty #[.slice none 0 0]).run C.P w = .ok (.int .i64 0) w := by simp [Builtin.cap_, run_underlying ht]; rfl
   rw [bK, this]
   exact aT h (by simp only [ay])
 · trivial
theorem Ck (h : aY g U w) {t u ty : TypeId} {mu : Bool} {s y : AV} {v v2 : Value} (hs : ay g s v) (hy : ay g y v2) :
 av.Fits C g U (wg C.P t u mu s y U) ((do let r <- Builtin.append_ #[t, u] ty #[v, v2]; pure (Next.value r) : Sem Next).run C.P w) := by
 unfold wg
 split
 · rename_i q hq
   exact GP h hq hs hy
 · exact Cj h hs hy
theorem Gy (h : aY g U w) (hG : fP C g) {ρ : Env} {a : Act} (hr : fg g ρ a.tmps) (mu : Bool) (c : Call) (ty : TypeId) :
 av.Fits C g U (wi C mu c ρ U) ((do let d <- resolve a.eval c ty; invoke d.target d.args : Sem Next).run C.P w) := by
 obtain ⟨callee, ⟨args⟩, ⟨argTypes⟩⟩ := c
 have e := fun x => qn hG hr x
 have fin : av.Fits C g U (match callee, argTypes, args with
  | .value f, _, args => fY C.P (ρ.ev C f) (args.map (ρ.ev C))
  | .builtin .len, [t], [x] => Dp C.P t (ρ.ev C x) U
  | .builtin .append, [t, u], [s, y] => wg C.P t u mu (ρ.ev C s) (ρ.ev C y) U
  | .builtin .cap, [t], [x] => Cv (dU C.P t) (ρ.ev C x)
  | .builtin .min, _, [x, y] => rY (ρ.ev C x) (ρ.ev C y)
  | .builtin .max, _, [x, y] => xP (ρ.ev C x) (ρ.ev C y)
  | .builtin .clear, [t], [x] => uX C.P t (ρ.ev C x) U
  | _, _, _ => .bad) ((do let d <- resolve a.eval ⟨callee, ⟨args⟩, ⟨argTypes⟩⟩ ty; invoke d.target d.args : Sem Next).run C.P w) := by
  split
  · rename_i f
    have := NA (C := C) h (e f) (wk hG hr args)
    have e2 : (args.map a.eval).toArray = (⟨args⟩ : Array Operand).map a.eval := by simp
    rw [e2] at this
    exact this
  · rename_i t x
    have := Js (C := C) (ty := ty) h (t := t) (e x)
    simpa only [resolve, invoke, builtin, bK, bY, bW, List.map_toArray, dy, gP] using this
  · rename_i t u s y
    have := Ck (C := C) (ty := ty) (mu := mu) h (t := t) (u := u) (e s) (e y)
    simpa only [resolve, invoke, builtin, bK, bY, bW, List.map_toArray, dy, gP] using this
  · rename_i t x
    have := H6 (C := C) (ty := ty) h (t := t) (e x)
    simpa only [resolve, invoke, builtin, bK, bY, bW, List.map_toArray, dy, gP] using this
  · rename_i x y
    have := JA (C := C) (ty := ty) (ts := ⟨argTypes⟩) h (e x) (e y)
    simpa only [resolve, invoke, builtin, bK, bY, bW, List.map_toArray, dy, gP] using this
  · rename_i x y
    have := Jz (C := C) (ty := ty) (ts := ⟨argTypes⟩) h (e x) (e y)
    simpa only [resolve, invoke, builtin, bK, bY, bW, List.map_toArray, dy, gP] using this
  · rename_i t x
    have := Ev (C := C) (ty := ty) h (t := t) (e x)
    simpa only [resolve, invoke, builtin, bK, bY, bW, List.map_toArray, dy, gP] using this
  · trivial
 exact fin
theorem N7 (h : aY g U w) (hG : fP C g) {ρ : Env} {a : Act} (hr : fg g ρ a.tmps) (mu : Bool) (o : Oper) : av.Fits C g U (gN C mu o.op ρ U) ((execOp a.eval o).run C.P w) := by
 have e := fun x => qn hG hr x
 obtain ⟨dst, op, type, pos, after, guard⟩ := o
 unfold gN
 dsimp only
 split
 · exact aT h (e _)
 · exact aT h (e _)
 · rename_i c x y
   unfold aR
   split
   · rename_i t ht
     have hc := e c
     rw [ht] at hc
     simp only [ay] at hc
     simp only [execOp, hc, asBool, bK, bY, bW]
     refine aT h ?_
     cases t
     · exact e _
     · exact e _
   · trivial
 · exact En h
 · exact H5 h (e _)
 · obtain ⟨h1, h2⟩ := wS hG hr ‹_›
   exact Es h h1 h2
 · obtain ⟨h1, h2⟩ := wS hG hr ‹_›
   exact xE h h1 h2
 · exact rv h (e _) (e _) (e _)
 · exact rv h (e _) (e _) (e _)
 · exact Hk h (e _)
 · exact Fb h (e _) (e _)
 · exact z8 h rfl (e _)
 · exact H3 h _ _ (e _) (e _)
 · exact O8 h (e _)
 · exact GB h (e _)
 · exact yZ h (e _)
 · rename_i fn first cap
   simp only [execOp, Instr.makeFunc, bK, bY, bW]
   refine aT h ?_
   simp only [ay]
   exact ⟨first.toList.map a.eval, cap.toList.map a.eval, by congr 1 <;> (apply Array.ext'; simp), wk hG hr _, wk hG hr _⟩
 · simp only [execOp, Instr.makeMap, Option.map_none, bK, bY, bW, run_newObj]
   exact Hs h
 · exact Fa h (e _) (F8 hG hr _) (F8 hG hr _)
 · exact yx h (e _)
 · exact zQ h (e _)
 · exact yS h (e _) (e _)
 · exact EH h (e _) (e _)
 · exact Dr h (e _) (e _)
 · exact BI h (e _) _
 · exact EW h (e _)
 · exact EY h (e _)
 · exact ya h (e _)
 · exact y6 h (e _) (e _)
 · exact Ht h (e _)
 · exact Ez h (e _)
 · exact Gy h hG hr mu _ _
 · trivial
end
end Go.Rip
