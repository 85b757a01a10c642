/- Lemmas for the proof that ParseNames returns true: no conditions. -/
import Derived.RangeFuncIn
import Derived.Laws.AppendOwn
import Derived.Below
import Derived.Laws.StructEq
import Derived.Lib.ConvBytes
import Derived.RangeFuncLeaves
import Derived.RangeFuncCalls
import Derived.Laws.MakeOwn
namespace Go.Rip
open Go.RowKit

/-- A live permission to append: how many elements there are, the element's type and its size in cells. -/
structure Tok where
  n : Nat
  e : TypeId
  size : Nat
  deriving DecidableEq

inductive Cap where
  | full
  | own (τ : Nat)
  | unk

/-- Abstract values. -/
inductive AV where
  | bool (b : Bool)
  | int (k : IntKind) (n : Int)
  | str (s : List UInt8)
  | nilptr
  | nilslice
  | nilmap
  | nilfunc
  | niliface
  | box (b off : Nat)
  | eptr (l : List AV)
  | vec (n : Nat) (cap : Cap) (l : List AV)
  | ms (b off n esz : Nat) (e : TypeId)
  | mp (m : Nat)
  | fmap (ks vs : List AV)
  | func (fn : Fn) (first captured : List AV)
  | iface (t : TypeId) (v : AV)
  | agg (l : List AV)
  | tup (l : List AV)
  | yld (o : Nat)
  | it (o : Nat)
  | any

instance : Inhabited AV := ⟨.any⟩

/-- Where a named thing lies in memory: its block, the type of its elements, how many cells (elements) the block has. -/
structure Place where
  blk : Nat
  e : TypeId
  size : Nat

/-- The record of a range over a function. -/
structure LoopA where
  ρ : Nat → AV
  nt : Nat
  params : Array Tmp
  assign : Code
  body : Code
  state : LoopState
  pend : Option Code
  tag : Nat

/-- What a name stands for. -/
inductive Live where
  | box (l : List AV)
  | tok (t : Tok)
  | mp (ks vs : List AV)
  | loop (L : LoopA)
  | iter (rest : List (AV × AV)) (cur : Option (AV × AV))
  | tbx (t : TypeId) (l : List AV)

/-- The ghost: where the named things lie, and what never changes any more. -/
structure Gh where
  base : Nat
  w0 : World
  place : Nat → Option Place
  imm : Nat → Nat → Option Value
  imap : Nat → Option (Array MapEntry × Nat)
  res : Nat → Bool
def Gh.box (g : Gh) (b : Nat) : Option Place := g.place b
def Gh.tok (g : Gh) (b : Nat) : Option (Nat × Nat) := (g.place b).map fun p => (p.blk, p.size)
def Gh.mp (g : Gh) (b : Nat) : Option Nat := (g.place b).map (·.blk)
theorem Gh.tok_iff {g : Gh} {b : Nat} {x : Nat × Nat} : g.tok b = some x ↔ ∃ p, g.place b = some p ∧ p.blk = x.1 ∧ p.size = x.2 := by
  unfold Gh.tok
  cases g.place b with
  | none => simp
  | some p => simp [Prod.ext_iff]
theorem Gh.mp_iff {g : Gh} {b : Nat} {x : Nat} : g.mp b = some x ↔ ∃ p, g.place b = some p ∧ p.blk = x := by
  unfold Gh.mp
  cases g.place b with
  | none => simp
  | some p => simp

def ImmAt (g : Gh) (blk off : Nat) (vs : List Value) : Prop := ∀ i u, vs[i]? = some u → g.imm blk (off + i) = some u

def CapOk (g : Gh) (cap : Cap) (blk off n c : Nat) : Prop :=
  match cap with
  | .full => c = n
  | .own τ => off = 0 ∧ g.tok τ = some (blk, c)
  | .unk => True

/-- The order of keys: integers of one kind, strings. -/
def keyLt : AV → AV → Bool
  | .int k a, .int k' b => decide (k = k') && decide (a < b)
  | .str a, .str b => decide (a < b)
  | _, _ => false
def Sorted (ks : List AV) : Prop := ks.Pairwise (fun a b => keyLt a b = true)
def BornOK (es : Array MapEntry) (clock : Nat) : Prop := (es.toList.map (·.born)).Nodup ∧ ∀ e ∈ es.toList, e.born < clock

mutual
def Rep (g : Gh) : AV → Value → Prop
  | .bool b, v => v = .bool b
  | .int k n, v => v = .int k n
  | .str s, v => v = .string ⟨s.toArray⟩
  | .nilptr, v => v = .pointer none
  | .nilslice, v => v = .slice none 0 0
  | .nilmap, v => v = .map none
  | .nilfunc, v => v = .nilFunc
  | .niliface, v => v = .nilIface
  | .box b off, v => ∃ x, g.box b = some x ∧ v = .pointer (some ⟨x.blk, off, none⟩)
  | .eptr l, v => ∃ blk off vs, v = .pointer (some ⟨blk, off, none⟩) ∧ ImmAt g blk off vs ∧ RepL g l vs
  | .vec n cap l, v => ∃ blk off c vs, v = .slice (some ⟨blk, off, none⟩) n c ∧ n ≤ c ∧ c ≤ maxLen ∧ CapOk g cap blk off n c ∧ ImmAt g blk off vs ∧ RepL g l vs
  | .ms b off n esz e, v => ∃ x c, g.box b = some x ∧ v = .slice (some ⟨x.blk, off, none⟩) n c ∧ n ≤ c ∧ c ≤ maxLen ∧ off + c * esz = x.size ∧ x.e = e
  | .mp m, v => ∃ r, g.mp m = some r ∧ v = .map (some r)
  | .fmap ks vs, v => ∃ r es clock, ∃ l : List MapEntry, v = .map (some r) ∧ g.imap r = some (es, clock) ∧ l.Perm es.toList ∧ Sorted ks ∧ RepL g ks (l.map (·.key)) ∧ RepL g vs (l.map (·.val))
  | .func fn first captured, v => ∃ fs cs, v = .func fn (List.toArray fs) (List.toArray cs) ∧ RepL g first fs ∧ RepL g captured cs
  | .iface t x, v => ∃ u, v = .iface t u ∧ Rep g x u
  | .agg l, v => ∃ vs, v = .agg (List.toArray vs) ∧ (∀ u ∈ vs, u.oneCell' = true) ∧ RepL g l vs
  | .tup l, v => ∃ vs, v = .tuple (List.toArray vs) ∧ RepL g l vs
  | .yld o, v => ∃ x, g.place o = some x ∧ v = .func (.yield x.blk) #[] #[]
  | .it o, v => ∃ x, g.place o = some x ∧ v = .pointer (some ⟨x.blk, 0, none⟩)
  | .any, _ => True
def RepL (g : Gh) : List AV → List Value → Prop
  | [], vs => vs = []
  | x :: xs, vs => ∃ u us, vs = u :: us ∧ Rep g x u ∧ RepL g xs us
end

/-- The ghost grows: what it says stays said. -/
structure Gh.Le (g g' : Gh) : Prop where
  base : g'.base = g.base
  w0 : g'.w0 = g.w0
  place : ∀ b x, g.place b = some x → g'.place b = some x
  imm : ∀ b o x, g.imm b o = some x → g'.imm b o = some x
  imap : ∀ b x, g.imap b = some x → g'.imap b = some x
  res : ∀ b, g.res b = true → g'.res b = true
  immOld : ∀ b o, b < g.base → g'.imm b o = g.imm b o
  imapOld : ∀ b, b < g.base → g'.imap b = g.imap b

theorem Gh.Le.refl (g : Gh) : Gh.Le g g := ⟨rfl, rfl, fun _ _ h => h, fun _ _ _ h => h, fun _ _ h => h, fun _ h => h, fun _ _ _ => rfl, fun _ _ => rfl⟩
theorem Gh.Le.trans {a b c : Gh} (h : Gh.Le a b) (k : Gh.Le b c) : Gh.Le a c :=
  ⟨k.base.trans h.base, k.w0.trans h.w0, fun _ _ x => k.place _ _ (h.place _ _ x), fun _ _ _ x => k.imm _ _ _ (h.imm _ _ _ x), fun _ _ x => k.imap _ _ (h.imap _ _ x), fun _ x => k.res _ (h.res _ x),
    fun q o hq => (k.immOld q o (by rw [h.base]; exact hq)).trans (h.immOld q o hq), fun q hq => (k.imapOld q (by rw [h.base]; exact hq)).trans (h.imapOld q hq)⟩

/-- As far as values go. -/
structure Gh.LeR (g g' : Gh) : Prop where
  place : ∀ b x, g.place b = some x → g'.place b = some x
  imm : ∀ b o x, g.imm b o = some x → g'.imm b o = some x
  imap : ∀ b x, g.imap b = some x → g'.imap b = some x
theorem Gh.LeR.tok {g g' : Gh} (h : Gh.LeR g g') {b : Nat} {x : Nat × Nat} (hb : g.tok b = some x) : g'.tok b = some x := by
  obtain ⟨p, h1, h2, h3⟩ := Gh.tok_iff.1 hb
  exact Gh.tok_iff.2 ⟨p, h.place _ _ h1, h2, h3⟩
theorem Gh.LeR.mp {g g' : Gh} (h : Gh.LeR g g') {b x : Nat} (hb : g.mp b = some x) : g'.mp b = some x := by
  obtain ⟨p, h1, h2⟩ := Gh.mp_iff.1 hb
  exact Gh.mp_iff.2 ⟨p, h.place _ _ h1, h2⟩
theorem Gh.Le.r {g g' : Gh} (h : Gh.Le g g') : Gh.LeR g g' := ⟨h.place, h.imm, h.imap⟩
theorem Gh.Le.box {g g' : Gh} (h : Gh.Le g g') (b : Nat) (x : Place) (hb : g.box b = some x) : g'.box b = some x := h.place b x hb
theorem Gh.Le.tok {g g' : Gh} (h : Gh.Le g g') (b : Nat) (x : Nat × Nat) (hb : g.tok b = some x) : g'.tok b = some x := h.r.tok hb
theorem Gh.Le.mp {g g' : Gh} (h : Gh.Le g g') (b : Nat) (x : Nat) (hb : g.mp b = some x) : g'.mp b = some x := h.r.mp hb
theorem ImmAt.monoR {g g' : Gh} (h : Gh.LeR g g') {blk off : Nat} {vs : List Value} (hi : ImmAt g blk off vs) : ImmAt g' blk off vs := fun i u hu => h.imm _ _ _ (hi i u hu)
theorem CapOk.monoR {g g' : Gh} (h : Gh.LeR g g') {cap : Cap} {blk off n c : Nat} (hi : CapOk g cap blk off n c) : CapOk g' cap blk off n c := by
  cases cap with
  | full => exact hi
  | own τ => exact ⟨hi.1, h.tok hi.2⟩
  | unk => trivial

mutual
theorem Rep.monoR {g g' : Gh} (h : Gh.LeR g g') : ∀ (x : AV) (v : Value), Rep g x v → Rep g' x v
  | .bool _, _, hr => hr
  | .int _ _, _, hr => hr
  | .str _, _, hr => hr
  | .nilptr, _, hr => hr
  | .nilslice, _, hr => hr
  | .nilmap, _, hr => hr
  | .nilfunc, _, hr => hr
  | .niliface, _, hr => hr
  | .box _ _, _, hr => by
    simp only [Rep] at hr ⊢
    obtain ⟨x, hx, hv⟩ := hr
    exact ⟨x, h.place _ _ hx, hv⟩
  | .eptr l, _, hr => by
    simp only [Rep] at hr ⊢
    obtain ⟨blk, off, vs, hv, hi, hl⟩ := hr
    exact ⟨blk, off, vs, hv, hi.monoR h, RepL.monoR h l vs hl⟩
  | .vec n cap l, _, hr => by
    simp only [Rep] at hr ⊢
    obtain ⟨blk, off, c, vs, hv, h1, h2, hc, hi, hl⟩ := hr
    exact ⟨blk, off, c, vs, hv, h1, h2, hc.monoR h, hi.monoR h, RepL.monoR h l vs hl⟩
  | .ms _ _ _ _ _, _, hr => by
    simp only [Rep] at hr ⊢
    obtain ⟨x, c, hx, r⟩ := hr
    exact ⟨x, c, h.place _ _ hx, r⟩
  | .mp _, _, hr => by
    simp only [Rep] at hr ⊢
    obtain ⟨x, hx, hv⟩ := hr
    exact ⟨x, h.mp hx, hv⟩
  | .fmap ks vs, _, hr => by
    simp only [Rep] at hr ⊢
    obtain ⟨r, es, c, l, hv, he, hp, hs, h1, h2⟩ := hr
    exact ⟨r, es, c, l, hv, h.imap _ _ he, hp, hs, RepL.monoR h ks _ h1, RepL.monoR h vs _ h2⟩
  | .func fn first captured, _, hr => by
    simp only [Rep] at hr ⊢
    obtain ⟨fs, cs, hv, h1, h2⟩ := hr
    exact ⟨fs, cs, hv, RepL.monoR h first _ h1, RepL.monoR h captured _ h2⟩
  | .iface t x, _, hr => by
    simp only [Rep] at hr ⊢
    obtain ⟨u, hv, h1⟩ := hr
    exact ⟨u, hv, Rep.monoR h x _ h1⟩
  | .agg l, _, hr => by
    simp only [Rep] at hr ⊢
    obtain ⟨vs, hv, h0, h1⟩ := hr
    exact ⟨vs, hv, h0, RepL.monoR h l _ h1⟩
  | .tup l, _, hr => by
    simp only [Rep] at hr ⊢
    obtain ⟨vs, hv, h1⟩ := hr
    exact ⟨vs, hv, RepL.monoR h l _ h1⟩
  | .yld o, _, hr => by
    simp only [Rep] at hr ⊢
    obtain ⟨x, hx, hv⟩ := hr
    exact ⟨x, h.place _ _ hx, hv⟩
  | .it o, _, hr => by
    simp only [Rep] at hr ⊢
    obtain ⟨x, hx, hv⟩ := hr
    exact ⟨x, h.place _ _ hx, hv⟩
  | .any, _, _ => by simp only [Rep]
theorem RepL.monoR {g g' : Gh} (h : Gh.LeR g g') : ∀ (l : List AV) (vs : List Value), RepL g l vs → RepL g' l vs
  | [], _, hr => by simpa only [RepL] using hr
  | x :: xs, _, hr => by
    simp only [RepL] at hr ⊢
    obtain ⟨u, us, hv, h1, h2⟩ := hr
    exact ⟨u, us, hv, Rep.monoR h x _ h1, RepL.monoR h xs _ h2⟩
end

theorem ImmAt.mono {g g' : Gh} (h : Gh.Le g g') {blk off : Nat} {vs : List Value} (hi : ImmAt g blk off vs) : ImmAt g' blk off vs := hi.monoR h.r
theorem CapOk.mono {g g' : Gh} (h : Gh.Le g g') {cap : Cap} {blk off n c : Nat} (hi : CapOk g cap blk off n c) : CapOk g' cap blk off n c := hi.monoR h.r
theorem Rep.mono {g g' : Gh} (h : Gh.Le g g') (x : AV) (v : Value) (hr : Rep g x v) : Rep g' x v := Rep.monoR h.r x v hr
theorem RepL.mono {g g' : Gh} (h : Gh.Le g g') (l : List AV) (vs : List Value) (hr : RepL g l vs) : RepL g' l vs := RepL.monoR h.r l vs hr

theorem RepL.length {g : Gh} : ∀ {l : List AV} {vs : List Value}, RepL g l vs → vs.length = l.length
  | [], _, h => by simp only [RepL] at h; simp [h]
  | _ :: xs, _, h => by
    simp only [RepL] at h
    obtain ⟨u, us, rfl, _, h2⟩ := h
    simp [RepL.length h2]
theorem RepL.append {g : Gh} : ∀ {l l' : List AV} {vs vs' : List Value}, RepL g l vs → RepL g l' vs' → RepL g (l ++ l') (vs ++ vs')
  | [], _, _, _, h, h' => by simp only [RepL] at h; subst h; simpa using h'
  | _ :: xs, _, _, _, h, h' => by
    simp only [RepL, List.cons_append] at h ⊢
    obtain ⟨u, us, rfl, h1, h2⟩ := h
    exact ⟨u, us ++ _, rfl, h1, RepL.append h2 h'⟩
theorem RepL.get {g : Gh} : ∀ {l : List AV} {vs : List Value} {i : Nat} {x : AV}, RepL g l vs → l[i]? = some x → ∃ v, vs[i]? = some v ∧ Rep g x v
  | [], _, _, _, _, hx => by simp at hx
  | y :: xs, _, 0, x, h, hx => by
    simp only [RepL] at h
    obtain ⟨u, us, rfl, h1, h2⟩ := h
    simp at hx; subst hx; exact ⟨u, rfl, h1⟩
  | y :: xs, _, i + 1, x, h, hx => by
    simp only [RepL] at h
    obtain ⟨u, us, rfl, h1, h2⟩ := h
    simp at hx
    obtain ⟨v, hv, hr⟩ := RepL.get h2 hx
    exact ⟨v, by simpa using hv, hr⟩
theorem RepL.drop {g : Gh} : ∀ {l : List AV} {vs : List Value} (n : Nat), RepL g l vs → RepL g (l.drop n) (vs.drop n)
  | _, _, 0, h => by simpa using h
  | [], _, n + 1, h => by simp only [RepL] at h; subst h; simp [RepL]
  | _ :: xs, _, n + 1, h => by
    simp only [RepL] at h
    obtain ⟨u, us, rfl, h1, h2⟩ := h
    simpa using RepL.drop n h2
theorem RepL.take {g : Gh} : ∀ {l : List AV} {vs : List Value} (n : Nat), RepL g l vs → RepL g (l.take n) (vs.take n)
  | _, _, 0, _ => by simp [RepL]
  | [], _, n + 1, h => by simp only [RepL] at h; subst h; simp [RepL]
  | _ :: xs, _, n + 1, h => by
    simp only [RepL] at h
    obtain ⟨u, us, rfl, h1, h2⟩ := h
    simp only [List.take_succ_cons, RepL]
    exact ⟨u, _, rfl, h1, RepL.take n h2⟩
theorem RepL.of_get {g : Gh} : ∀ {l : List AV} {vs : List Value}, vs.length = l.length → (∀ (i : Nat) (x : AV) (v : Value), l[i]? = some x → vs[i]? = some v → Rep g x v) → RepL g l vs
  | [], vs, hl, _ => by simp only [RepL]; simpa using hl
  | x :: xs, [], hl, _ => by simp at hl
  | x :: xs, v :: vs, hl, h => by
    simp only [RepL]
    exact ⟨v, vs, rfl, h 0 x v rfl rfl, RepL.of_get (by simpa using hl) fun i x v hx hv => h (i + 1) x v (by simpa using hx) (by simpa using hv)⟩

/-- The parts of a map, up to the order of its entries. -/
def MapOK (g : Gh) (ks vs : List AV) (es : Array MapEntry) : Prop := ∃ l : List MapEntry, l.Perm es.toList ∧ Sorted ks ∧ RepL g ks (l.map (·.key)) ∧ RepL g vs (l.map (·.val))
def IterOK (g : Gh) (es : Array MapEntry) (seen : Array Nat) (rest : List (AV × AV)) (cur : Option (AV × AV)) : Prop :=
  (∃ l : List MapEntry, l.Perm (es.toList.filter fun e => !seen.contains e.born) ∧ RepL g (rest.map (·.1)) (l.map (·.key)) ∧ RepL g (rest.map (·.2)) (l.map (·.val))) ∧
  (match cur with
   | none => True
   | some (k, v) => ∃ e ∈ es.toList, seen.back? = some e.born ∧ Rep g k e.key ∧ Rep g v e.val)
def LiveOK (g : Gh) (w : World) (p : Place) : Live → Prop
  | .box l => ∃ cur vs rest, w.heap[p.blk]? = some (.cells cur p.e (0, 0)) ∧ cur.size = p.size ∧ cur.toList = vs ++ rest ∧ RepL g l vs ∧ (∀ u ∈ cur.toList, u.oneCell' = true) ∧ (∀ o, g.imm p.blk o = none)
  | .tok t => ∃ cur, w.heap[p.blk]? = some (.cells cur t.e (0, 0)) ∧ cur.size = p.size * t.size ∧ t.n ≤ p.size ∧ p.size ≤ maxLen ∧ (∀ o, t.n * t.size ≤ o → g.imm p.blk o = none)
  | .mp ks vs => ∃ es clock, w.heap[p.blk]? = some (.map es clock) ∧ BornOK es clock ∧ MapOK g ks vs es ∧ g.imap p.blk = none
  | .loop L => ∃ fn tmps defers, w.heap[p.blk]? = some (.loop { state := L.state, pending := L.pend, fn, tmps, params := L.params, assign := L.assign, body := L.body, defers }) ∧ tmps.size = L.nt ∧ ∀ t, Rep g (L.ρ t) (tmps.getD t undef)
  | .iter rest cur => ∃ m es clock seen, w.heap[p.blk]? = some (.mapIter (some m) clock seen clock) ∧ g.imap m = some (es, clock) ∧ IterOK g es seen rest cur
  | .tbx t l => p.e = t ∧ p.size = l.length ∧ ∃ cur vs rest, w.heap[p.blk]? = some (.cells cur p.e (0, 0)) ∧ cur.size = p.size ∧ cur.toList = vs ++ rest ∧ RepL g l vs ∧ (∀ u ∈ cur.toList, u.oneCell' = true) ∧ (∀ o, g.imm p.blk o = none)

/-- The abstract state. nb: where it is known, the next free name. -/
structure St where
  live : Nat → Option Live
  nb : Option Nat
def St.box (σ : St) (b : Nat) : Option (List AV) := match σ.live b with | some (.box l) => some l | some (.tbx _ l) => some l | _ => none
def St.tok (σ : St) (b : Nat) : Option Tok := match σ.live b with | some (.tok t) => some t | _ => none
def St.mp (σ : St) (b : Nat) : Option (List AV × List AV) := match σ.live b with | some (.mp ks vs) => some (ks, vs) | _ => none
def St.loop (σ : St) (b : Nat) : Option LoopA := match σ.live b with | some (.loop L) => some L | _ => none
def St.iter (σ : St) (b : Nat) : Option (List (AV × AV) × Option (AV × AV)) := match σ.live b with | some (.iter r c) => some (r, c) | _ => none
theorem St.box_live {σ : St} {b : Nat} {l : List AV} (h : σ.box b = some l) : ∃ x, σ.live b = some x ∧ ∀ g w p, LiveOK g w p x → LiveOK g w p (.box l) := by
  unfold St.box at h
  split at h
  · rename_i l' hl; cases h; exact ⟨_, hl, fun _ _ _ h => h⟩
  · rename_i t l' hl; cases h; exact ⟨_, hl, fun _ _ _ h => h.2.2⟩
  · cases h
theorem St.tok_iff {σ : St} {b : Nat} {l : Tok} : σ.tok b = some l ↔ σ.live b = some (.tok l) := by unfold St.tok; split <;> simp_all
theorem St.mp_iff {σ : St} {b : Nat} {l : List AV × List AV} : σ.mp b = some l ↔ σ.live b = some (.mp l.1 l.2) := by unfold St.mp; split <;> simp_all [Prod.ext_iff]
theorem St.loop_iff {σ : St} {b : Nat} {l : LoopA} : σ.loop b = some l ↔ σ.live b = some (.loop l) := by unfold St.loop; split <;> simp_all
theorem St.iter_iff {σ : St} {b : Nat} {l : List (AV × AV) × Option (AV × AV)} : σ.iter b = some l ↔ σ.live b = some (.iter l.1 l.2) := by unfold St.iter; split <;> simp_all [Prod.ext_iff]
def St.set (σ : St) (b : Nat) (x : Live) : St := { σ with live := fun y => if y = b then some x else σ.live y }
def St.del (σ : St) (b : Nat) : St := { σ with live := fun y => if y = b then none else σ.live y }
/-- A new name. -/
def St.new (σ : St) (b : Nat) (x : Live) : St := { live := fun y => if y = b then some x else σ.live y, nb := σ.nb.map (· + 1) }
def St.Fresh (σ : St) (b : Nat) : Prop := σ.live b = none ∧ ∀ n, σ.nb = some n → b = n

structure Sim (g : Gh) (σ : St) (w : World) : Prop where
  below : Below g.base g.w0 w
  le : g.base ≤ w.heap.size
  imm : ∀ blk o u, g.imm blk o = some u → w.cell? ⟨blk, o, none⟩ = some u ∧ u.oneCell' = true
  imap : ∀ r es c, g.imap r = some (es, c) → w.heap[r]? = some (.map es c) ∧ BornOK es c
  live : ∀ b x, σ.live b = some x → ∃ p, g.place b = some p ∧ g.base ≤ p.blk ∧ LiveOK g w p x
  apart : ∀ b b' x x' p p', σ.live b = some x → σ.live b' = some x' → g.place b = some p → g.place b' = some p' → p.blk = p'.blk → b = b'
  res : ∀ r, g.res r = true → g.base ≤ r ∧ w.heap[r]? = some (.deferred (some []))
  fin : ∃ N, (∀ n, σ.nb = some n → N = n) ∧ ∀ b, N ≤ b → g.place b = none

end Go.Rip

set_option linter.unusedSimpArgs false
set_option linter.unusedVariables false
namespace Go.Rip
open Go.RowKit

structure St.Le (σ σ' : St) : Prop where
  live : ∀ b x, σ.live b = some x → σ'.live b = some x
  nb : ∀ n, σ.nb = some n → σ'.nb = some n
theorem St.Le.refl (σ : St) : St.Le σ σ := ⟨fun _ _ h => h, fun _ h => h⟩
theorem St.Le.trans {a b c : St} (h : St.Le a b) (k : St.Le b c) : St.Le a c := ⟨fun _ _ x => k.live _ _ (h.live _ _ x), fun _ x => k.nb _ (h.nb _ x)⟩
theorem St.del_le (σ : St) (b : Nat) : St.Le (σ.del b) σ := ⟨fun x y hx => by simp only [St.del] at hx; split at hx <;> simp_all, fun _ h => h⟩

theorem Sim.weaken {g : Gh} {σ σ' : St} {w : World} (h : Sim g σ' w) (hl : St.Le σ σ') : Sim g σ w where
  below := h.below
  le := h.le
  imm := h.imm
  imap := h.imap
  live := fun b l hb => h.live b l (hl.live _ _ hb)
  apart := fun b b' l l' x x' h1 h2 => h.apart b b' l l' x x' (hl.live _ _ h1) (hl.live _ _ h2)
  res := h.res
  fin := let ⟨N, h1, h2⟩ := h.fin; ⟨N, fun n hn => h1 n (hl.nb n hn), h2⟩

theorem cellsOf_block {w w' : World} {k : Nat} (h : w'.heap[k]? = w.heap[k]?) (o : Nat) : w'.cell? ⟨k, o, none⟩ = w.cell? ⟨k, o, none⟩ := by simp [World.cell?, h]
theorem Sim.imm_lt {g : Gh} {σ : St} {w : World} (h : Sim g σ w) {blk o : Nat} {u : Value} (hi : g.imm blk o = some u) : blk < w.heap.size :=
  World.block_lt_of_cell? w ⟨blk, o, none⟩ (h.imm _ _ _ hi).1
theorem Sim.imap_lt {g : Gh} {σ : St} {w : World} (h : Sim g σ w) {r : Nat} {x : Array MapEntry × Nat} (hi : g.imap r = some x) : r < w.heap.size :=
  (Array.getElem?_eq_some_iff.1 (h.imap r x.1 x.2 hi).1).1
theorem Sim.imm_new {g : Gh} {σ : St} {w : World} (h : Sim g σ w) {q : Nat} (hq : w.heap.size ≤ q) (o : Nat) : g.imm q o = none := by
  cases e : g.imm q o with
  | none => rfl
  | some u => have := h.imm_lt e; omega
theorem Sim.imap_new {g : Gh} {σ : St} {w : World} (h : Sim g σ w) {q : Nat} (hq : w.heap.size ≤ q) : g.imap q = none := by
  cases e : g.imap q with
  | none => rfl
  | some u => have := h.imap_lt e; omega

theorem MapOK.monoR {g g' : Gh} (h : Gh.LeR g g') {ks vs : List AV} {es : Array MapEntry} (hm : MapOK g ks vs es) : MapOK g' ks vs es :=
  let ⟨l, h1, h2, h3, h4⟩ := hm; ⟨l, h1, h2, h3.monoR h, h4.monoR h⟩
theorem IterOK.monoR {g g' : Gh} (h : Gh.LeR g g') {es : Array MapEntry} {seen : Array Nat} {rest : List (AV × AV)} {cur : Option (AV × AV)} (hm : IterOK g es seen rest cur) : IterOK g' es seen rest cur := by
  obtain ⟨⟨l, h1, h2, h3⟩, h4⟩ := hm
  refine ⟨⟨l, h1, h2.monoR h, h3.monoR h⟩, ?_⟩
  cases cur with
  | none => trivial
  | some kv => obtain ⟨e, k1, k2, k3, k4⟩ := h4; exact ⟨e, k1, k2, k3.monoR h, k4.monoR h⟩

/-- Where a thing's block is as it was. -/
theorem LiveOK.frame {g g' : Gh} {w w' : World} {p : Place} {x : Live} (h : LiveOK g w p x) (hl : Gh.LeR g g') (hb : w'.heap[p.blk]? = w.heap[p.blk]?) (hi : ∀ o, g'.imm p.blk o = g.imm p.blk o) (hm : g'.imap p.blk = g.imap p.blk) : LiveOK g' w' p x := by
  cases x with
  | box l => obtain ⟨cur, vs, rest, h1, h2, h3, h4, h5, h6⟩ := h; exact ⟨cur, vs, rest, hb.trans h1, h2, h3, h4.monoR hl, h5, fun o => (hi o).trans (h6 o)⟩
  | tok t => obtain ⟨cur, h1, h2, h3, h4, h5⟩ := h; exact ⟨cur, hb.trans h1, h2, h3, h4, fun o ho => (hi o).trans (h5 o ho)⟩
  | mp ks vs => obtain ⟨es, clock, h1, h2, h3, h4⟩ := h; exact ⟨es, clock, hb.trans h1, h2, h3.monoR hl, hm.trans h4⟩
  | loop L => obtain ⟨fn, tmps, defers, h1, h2, h3⟩ := h; exact ⟨fn, tmps, defers, hb.trans h1, h2, fun t => (h3 t).monoR hl⟩
  | iter rest cur => obtain ⟨m, es, clock, seen, h1, h2, h3⟩ := h; exact ⟨m, es, clock, seen, hb.trans h1, hl.imap _ _ h2, h3.monoR hl⟩
  | tbx t l => obtain ⟨e1, e2, cur, vs, rest, h1, h2, h3, h4, h5, h6⟩ := h; exact ⟨e1, e2, cur, vs, rest, hb.trans h1, h2, h3, h4.monoR hl, h5, fun o => (hi o).trans (h6 o)⟩
theorem LiveOK.lt {g : Gh} {w : World} {p : Place} {x : Live} (h : LiveOK g w p x) : p.blk < w.heap.size := by
  have : ∃ o, w.heap[p.blk]? = some o := by
    cases x with
    | box l => obtain ⟨cur, vs, rest, h1, _⟩ := h; exact ⟨_, h1⟩
    | tok t => obtain ⟨cur, h1, _⟩ := h; exact ⟨_, h1⟩
    | mp ks vs => obtain ⟨es, clock, h1, _⟩ := h; exact ⟨_, h1⟩
    | loop L => obtain ⟨fn, tmps, defers, h1, _⟩ := h; exact ⟨_, h1⟩
    | iter rest cur => obtain ⟨m, es, clock, seen, h1, _⟩ := h; exact ⟨_, h1⟩
    | tbx t l => obtain ⟨_, _, cur, vs, rest, h1, _⟩ := h; exact ⟨_, h1⟩
  exact (Array.getElem?_eq_some_iff.1 this.choose_spec).1
theorem LiveOK.notMark {g : Gh} {w : World} {p : Place} {x : Live} (h : LiveOK g w p x) {r : Nat} {ds : Option (List Deferred)} (hr : w.heap[r]? = some (.deferred ds)) : p.blk ≠ r := by
  intro e
  subst e
  cases x with
  | box l => obtain ⟨cur, vs, rest, h1, _⟩ := h; rw [hr] at h1; cases h1
  | tok t => obtain ⟨cur, h1, _⟩ := h; rw [hr] at h1; cases h1
  | mp ks vs => obtain ⟨es, clock, h1, _⟩ := h; rw [hr] at h1; cases h1
  | loop L => obtain ⟨fn, tmps, defers, h1, _⟩ := h; rw [hr] at h1; cases h1
  | iter rest cur => obtain ⟨m, es, clock, seen, h1, _⟩ := h; rw [hr] at h1; cases h1
  | tbx t l => obtain ⟨_, _, cur, vs, rest, h1, _⟩ := h; rw [hr] at h1; cases h1

/-- One block changes, of which nothing is said by a name (nor by a mark): a new one, or one whose name is gone. -/
theorem Sim.change {g g' : Gh} {σ : St} {w w' : World} (h : Sim g σ w) (B : Nat) (hB : g.base ≤ B) (hle : Gh.Le g g') (hpl : g'.place = g.place) (hres : g'.res = g.res)
    (hw : w'.os = w.os ∧ w'.tape = w.tape ∧ w'.output = w.output ∧ w.heap.size ≤ w'.heap.size) (hk : ∀ k, k ≠ B → k < w.heap.size → w'.heap[k]? = w.heap[k]?)
    (himm : ∀ q o, q ≠ B → g'.imm q o = g.imm q o) (himap : ∀ q, q ≠ B → g'.imap q = g.imap q)
    (hi : ∀ o u, g'.imm B o = some u → w'.cell? ⟨B, o, none⟩ = some u ∧ u.oneCell' = true) (hm : ∀ es c, g'.imap B = some (es, c) → w'.heap[B]? = some (.map es c) ∧ BornOK es c)
    (hno : ∀ b x p, σ.live b = some x → g.place b = some p → p.blk ≠ B) (hmark : g.res B = false) : Sim g' σ w' := by
  have hlt : ∀ k o, w.heap[k]? = some o → k ≠ B → w'.heap[k]? = some o := fun k o hko hn => by rw [hk k hn (Array.getElem?_eq_some_iff.1 hko).1]; exact hko
  exact {
    below := by
      rw [hle.base, hle.w0]
      exact h.below.trans ⟨hw.1, hw.2.1, hw.2.2.1, hw.2.2.2, fun k hkb => hk k (by omega) (by have := h.le; omega)⟩
    le := by rw [hle.base]; exact Nat.le_trans h.le hw.2.2.2
    imm := fun q o u hu => by
      by_cases hq : q = B
      · subst hq; exact hi o u hu
      · rw [himm q o hq] at hu
        rw [cellsOf_block (hk q hq (h.imm_lt hu))]; exact h.imm _ _ _ hu
    imap := fun r es c hr => by
      by_cases hq : r = B
      · subst hq; exact hm es c hr
      · rw [himap r hq] at hr
        rw [hk r hq (h.imap_lt hr)]; exact h.imap _ _ _ hr
    live := fun b x hb => by
      obtain ⟨p, h1, h2, h3⟩ := h.live b x hb
      have hpb := hno b x p hb h1
      refine ⟨p, by rw [hpl]; exact h1, by rw [hle.base]; exact h2, h3.frame hle.r (hk _ hpb h3.lt) (fun o => himm _ _ hpb) (himap _ hpb)⟩
    apart := fun b b' x x' p p' h1 h2 h3 h4 h5 => by rw [hpl] at h3 h4; exact h.apart b b' x x' p p' h1 h2 h3 h4 h5
    res := fun r hr => by
      rw [hres] at hr
      obtain ⟨h1, h2⟩ := h.res r hr
      rw [hle.base]
      exact ⟨h1, hlt _ _ h2 (fun e => by subst e; rw [hmark] at hr; cases hr)⟩
    fin := by rw [hpl]; exact h.fin }

/-- A block gets a name. -/
theorem Sim.named {g : Gh} {σ : St} {w : World} (h : Sim g σ w) {b : Nat} {p : Place} {x : Live} (hb : g.place b = some p) (hB : g.base ≤ p.blk) (hx : LiveOK g w p x)
    (hno : ∀ b' x' p', b' ≠ b → σ.live b' = some x' → g.place b' = some p' → p'.blk ≠ p.blk) : Sim g (σ.set b x) w where
  below := h.below
  le := h.le
  imm := h.imm
  imap := h.imap
  live := fun b' x' hb' => by
    simp only [St.set] at hb'
    split at hb'
    · rename_i e; subst e; cases hb'; exact ⟨p, hb, hB, hx⟩
    · exact h.live b' x' hb'
  apart := fun b1 b2 x1 x2 p1 p2 h1 h2 h3 h4 h5 => by
    simp only [St.set] at h1 h2
    by_cases e1 : b1 = b <;> by_cases e2 : b2 = b
    · rw [e1, e2]
    · rw [if_neg e2] at h2
      subst e1; rw [hb] at h3; cases h3
      exact absurd h5.symm (hno _ _ _ e2 h2 h4)
    · rw [if_neg e1] at h1
      subst e2; rw [hb] at h4; cases h4
      exact absurd h5 (hno _ _ _ e1 h1 h3)
    · rw [if_neg e1] at h1; rw [if_neg e2] at h2
      exact h.apart _ _ _ _ _ _ h1 h2 h3 h4 h5
  res := h.res
  fin := h.fin

def Gh.addPlace (g : Gh) (b : Nat) (p : Place) : Gh := { g with place := fun y => if y = b then some p else g.place y }
theorem Gh.addPlace_self (g : Gh) (b : Nat) (p : Place) : (g.addPlace b p).place b = some p := by simp [Gh.addPlace]
theorem Gh.addPlace_ne (g : Gh) {b y : Nat} (p : Place) (h : y ≠ b) : (g.addPlace b p).place y = g.place y := by simp [Gh.addPlace, h]
theorem Gh.le_addPlace {g : Gh} {b : Nat} (p : Place) (h : g.place b = none) : Gh.Le g (g.addPlace b p) :=
  ⟨rfl, rfl, fun y x hy => by rw [Gh.addPlace_ne _ _ (fun e => by subst e; rw [h] at hy; cases hy)]; exact hy, fun _ _ _ h => h, fun _ _ h => h, fun _ h => h, fun _ _ _ => rfl, fun _ _ => rfl⟩

/-- A new name for a block of which nothing is said by a name. -/
theorem Sim.newName {g : Gh} {σ : St} {w : World} (h : Sim g σ w) (p : Place) (hB : g.base ≤ p.blk) (hno : ∀ b' x' p', σ.live b' = some x' → g.place b' = some p' → p'.blk ≠ p.blk) :
    ∃ b, σ.Fresh b ∧ Gh.Le g (g.addPlace b p) ∧ ∀ x, LiveOK (g.addPlace b p) w p x → Sim (g.addPlace b p) (σ.new b x) w := by
  obtain ⟨N, hN1, hN2⟩ := h.fin
  have hpn : g.place N = none := hN2 N (Nat.le_refl _)
  have hln : σ.live N = none := by
    cases e : σ.live N with
    | none => rfl
    | some x => obtain ⟨p, h1, _⟩ := h.live N x e; rw [hpn] at h1; cases h1
  refine ⟨N, ⟨hln, hN1⟩, Gh.le_addPlace p hpn, fun x hx => ?_⟩
  have hle := Gh.le_addPlace (g := g) p hpn
  have hne : ∀ b x, σ.live b = some x → b ≠ N := fun b x hb e => by subst e; rw [hln] at hb; cases hb
  exact {
    below := h.below
    le := h.le
    imm := h.imm
    imap := h.imap
    live := fun b' x' hb' => by
      simp only [St.new] at hb'
      split at hb'
      · rename_i e; subst e; cases hb'; exact ⟨p, Gh.addPlace_self _ _ _, hB, hx⟩
      · obtain ⟨p', h1, h2, h3⟩ := h.live b' x' hb'
        exact ⟨p', hle.place _ _ h1, h2, h3.frame hle.r rfl (fun _ => rfl) rfl⟩
    apart := fun b1 b2 x1 x2 p1 p2 h1 h2 h3 h4 h5 => by
      simp only [St.new] at h1 h2
      by_cases e1 : b1 = N <;> by_cases e2 : b2 = N
      · rw [e1, e2]
      · rw [if_neg e2] at h2; rw [Gh.addPlace_ne _ _ e2] at h4
        subst e1; rw [Gh.addPlace_self] at h3; cases h3
        exact absurd h5.symm (hno _ _ _ h2 h4)
      · rw [if_neg e1] at h1; rw [Gh.addPlace_ne _ _ e1] at h3
        subst e2; rw [Gh.addPlace_self] at h4; cases h4
        exact absurd h5 (hno _ _ _ h1 h3)
      · rw [if_neg e1] at h1; rw [if_neg e2] at h2
        rw [Gh.addPlace_ne _ _ e1] at h3; rw [Gh.addPlace_ne _ _ e2] at h4
        exact h.apart _ _ _ _ _ _ h1 h2 h3 h4 h5
    res := h.res
    fin := ⟨N + 1, fun n hn => by
      simp only [St.new, Option.map_eq_some_iff] at hn
      obtain ⟨m, hm, rfl⟩ := hn
      rw [hN1 m hm], fun b hb => by rw [Gh.addPlace_ne _ _ (by omega)]; exact hN2 b (by omega)⟩ }

/-- Nothing that the ghost knows has changed: new blocks only. -/
theorem Sim.grow {g : Gh} {σ : St} {w w' : World} (h : Sim g σ w) (hg : w.grownBy w' none) : Sim g σ w' := by
  have hb : ∀ k, k < w.heap.size → w'.heap[k]? = w.heap[k]? := fun k hk => hg.block k hk (by simp)
  refine h.change w.heap.size h.le (Gh.Le.refl g) rfl rfl ⟨hg.os, hg.tape, hg.output, hg.size⟩ (fun k _ hk => hb k hk) (fun _ _ _ => rfl) (fun _ _ => rfl) (fun o u hu => ?_) (fun es c hr => ?_) (fun b x p h1 h2 => ?_) ?_
  · rw [h.imm_new (Nat.le_refl _)] at hu; cases hu
  · rw [h.imap_new (Nat.le_refl _)] at hr; cases hr
  · obtain ⟨p', k1, _, k3⟩ := h.live b x h1
    rw [h2] at k1; cases k1
    exact Nat.ne_of_lt k3.lt
  · cases e : g.res w.heap.size with
    | false => rfl
    | true => have := (Array.getElem?_eq_some_iff.1 (h.res _ e).2).1; omega
theorem grownBy_drew (w : World) : w.grownBy w.drew none := ⟨rfl, rfl, rfl, Nat.le_refl _, fun _ _ _ => rfl⟩
theorem grownBy_refl (w : World) (r : Option Nat) : w.grownBy w r := ⟨rfl, rfl, rfl, Nat.le_refl _, fun _ _ _ => rfl⟩
theorem Sim.res_new {g : Gh} {σ : St} {w : World} (h : Sim g σ w) {q : Nat} (hq : w.heap.size ≤ q) : g.res q = false := by
  cases e : g.res q with
  | false => rfl
  | true => have := (Array.getElem?_eq_some_iff.1 (h.res _ e).2).1; omega
theorem Sim.place_lt {g : Gh} {σ : St} {w : World} (h : Sim g σ w) {b : Nat} {x : Live} {p : Place} (hb : σ.live b = some x) (hp : g.place b = some p) : p.blk < w.heap.size := by
  obtain ⟨p', k1, _, k3⟩ := h.live b x hb
  rw [hp] at k1; cases k1
  exact k3.lt
theorem Sim.res_live {g : Gh} {σ : St} {w : World} (h : Sim g σ w) {b : Nat} {x : Live} {p : Place} (hb : σ.live b = some x) (hp : g.place b = some p) : g.res p.blk = false := by
  cases e : g.res p.blk with
  | false => rfl
  | true =>
    obtain ⟨p', k1, _, k3⟩ := h.live b x hb
    rw [hp] at k1; cases k1
    exact absurd rfl (k3.notMark (h.res _ e).2)

/-- A new thing in a new block. -/
theorem Sim.newThing {g : Gh} {σ : St} {w : World} (h : Sim g σ w) (o : Obj) (e : TypeId) (size : Nat) (x : Live)
    (hx : ∀ g', Gh.Le g g' → (∀ o, g'.imm w.heap.size o = none) → g'.imap w.heap.size = none → LiveOK g' (w.alloc o) ⟨w.heap.size, e, size⟩ x) :
    ∃ b g', σ.Fresh b ∧ Gh.Le g g' ∧ g'.place b = some ⟨w.heap.size, e, size⟩ ∧ Sim g' (σ.new b x) (w.alloc o) := by
  have hs := h.grow (w.grownBy_alloc o none)
  obtain ⟨b, h1, h2, h3⟩ := hs.newName ⟨w.heap.size, e, size⟩ h.le (fun b' x' p' k1 k2 => Nat.ne_of_lt (h.place_lt k1 k2))
  exact ⟨b, _, h1, h2, Gh.addPlace_self _ _ _, h3 x (hx _ h2 (fun o => h.imm_new (Nat.le_refl _) o) (h.imap_new (Nat.le_refl _)))⟩
end Go.Rip

set_option linter.unusedSimpArgs false
set_option linter.unusedVariables false
namespace Go.Rip
open Go.RowKit

def St.setBox (σ : St) (b : Nat) (l : List AV) : St := σ.set b (.box l)
def St.setMp (σ : St) (b : Nat) (kv : List AV × List AV) : St := σ.set b (.mp kv.1 kv.2)

theorem Sim.box {g : Gh} {σ : St} {w : World} (h : Sim g σ w) (b : Nat) (l : List AV) (hb : σ.box b = some l) : ∃ x cur vs rest, g.box b = some x ∧ g.base ≤ x.blk ∧ w.heap[x.blk]? = some (.cells cur x.e (0, 0)) ∧ cur.size = x.size ∧ cur.toList = vs ++ rest ∧ RepL g l vs ∧
    (∀ u ∈ cur.toList, u.oneCell' = true) ∧ (∀ o, g.imm x.blk o = none) := by
  obtain ⟨y, hy, hyb⟩ := St.box_live hb
  obtain ⟨p, h1, h2, hp⟩ := h.live b _ hy
  obtain ⟨cur, vs, rest, h3, h4, h5, h6, h7, h8⟩ := hyb _ _ _ hp
  exact ⟨p, cur, vs, rest, h1, h2, h3, h4, h5, h6, h7, h8⟩
theorem Sim.tok {g : Gh} {σ : St} {w : World} (h : Sim g σ w) (τ : Nat) (t : Tok) (ht : σ.tok τ = some t) : ∃ blk c cur, g.tok τ = some (blk, c) ∧ g.base ≤ blk ∧ w.heap[blk]? = some (.cells cur t.e (0, 0)) ∧ cur.size = c * t.size ∧ t.n ≤ c ∧ c ≤ maxLen ∧
    (∀ o, t.n * t.size ≤ o → g.imm blk o = none) := by
  obtain ⟨p, h1, h2, cur, h3, h4, h5, h6, h7⟩ := h.live τ _ (St.tok_iff.1 ht)
  exact ⟨p.blk, p.size, cur, Gh.tok_iff.2 ⟨p, h1, rfl, rfl⟩, h2, h3, h4, h5, h6, h7⟩
theorem Sim.mp {g : Gh} {σ : St} {w : World} (h : Sim g σ w) (m : Nat) (kv : List AV × List AV) (hm : σ.mp m = some kv) : ∃ r es clock, g.mp m = some r ∧ g.base ≤ r ∧ w.heap[r]? = some (.map es clock) ∧ BornOK es clock ∧ MapOK g kv.1 kv.2 es ∧ g.imap r = none := by
  obtain ⟨p, h1, h2, es, clock, h3, h4, h5, h6⟩ := h.live m _ (St.mp_iff.1 hm)
  exact ⟨p.blk, es, clock, Gh.mp_iff.2 ⟨p, h1, rfl⟩, h2, h3, h4, h5, h6⟩

/-- A named thing is written, and keeps its name. -/
theorem Sim.rewrite {g : Gh} {σ : St} {w w' : World} (h : Sim g σ w) {b : Nat} {x x' : Live} {p : Place} (hb : σ.live b = some x) (hp : g.place b = some p)
    (hw : w'.os = w.os ∧ w'.tape = w.tape ∧ w'.output = w.output ∧ w.heap.size ≤ w'.heap.size) (hk : ∀ k, k ≠ p.blk → k < w.heap.size → w'.heap[k]? = w.heap[k]?)
    (hi : ∀ o, g.imm p.blk o = none) (hm : g.imap p.blk = none) (hx : LiveOK g w' p x') : Sim g (σ.set b x') w' := by
  obtain ⟨p', k1, k2, k3⟩ := h.live b x hb
  rw [hp] at k1; cases k1
  have hno : ∀ b' x' p', b' ≠ b → σ.live b' = some x' → g.place b' = some p' → p'.blk ≠ p.blk := fun b' x' p' hne h1 h2 e => hne (h.apart _ _ _ _ _ _ h1 hb h2 hp e)
  have hd : ∀ b' x' p', (σ.del b).live b' = some x' → g.place b' = some p' → p'.blk ≠ p.blk := fun b' x' p' h1 h2 => by
    simp only [St.del] at h1
    split at h1
    · cases h1
    · rename_i e; exact hno _ _ _ e h1 h2
  have h1 := (h.weaken (St.del_le σ b)).change p.blk k2 (Gh.Le.refl g) rfl rfl hw hk (fun _ _ _ => rfl) (fun _ _ => rfl) (fun o u hu => by rw [hi] at hu; cases hu) (fun es c hr => by rw [hm] at hr; cases hr) hd (h.res_live hb hp)
  have h2 := h1.named hp k2 hx (fun b' x' p' _ q1 q2 => hd b' x' p' q1 q2)
  have e : (σ.del b).set b x' = σ.set b x' := by
    simp only [St.del, St.set, St.mk.injEq, and_true]
    funext y
    split <;> rfl
  rw [← e]; exact h2

/-- A new box, in a new block. -/
theorem Sim.newBox {g : Gh} {σ : St} {w : World} (h : Sim g σ w) (e : TypeId) (cur : Array Value) (vs rest : List Value) (l : List AV) (hc : cur.toList = vs ++ rest) (hl : RepL g l vs) (h1 : ∀ u ∈ cur.toList, u.oneCell' = true) :
    ∃ b g', σ.Fresh b ∧ Gh.Le g g' ∧ g'.box b = some ⟨w.heap.size, e, cur.size⟩ ∧ Sim g' (σ.new b (.box l)) (w.alloc (.cells cur e)) :=
  h.newThing (.cells cur e) e cur.size (.box l) fun g' hle hi hm => ⟨cur, vs, rest, heap_alloc_new w _, rfl, hc, hl.mono hle, h1, hi⟩

/-- A new block of cells that never change (at least the first ones). -/
theorem Sim.newImm {g : Gh} {σ : St} {w : World} (h : Sim g σ w) (e : TypeId) (cur : Array Value) (vs rest : List Value) (hc : cur.toList = vs ++ rest) (h1 : ∀ u ∈ cur.toList, u.oneCell' = true) :
    ∃ g', Gh.Le g g' ∧ ImmAt g' w.heap.size 0 vs ∧ (∀ o, vs.length ≤ o → g'.imm w.heap.size o = none) ∧ g'.place = g.place ∧ Sim g' σ (w.alloc (.cells cur e)) := by
  let g' : Gh := { g with imm := fun blk o => if blk = w.heap.size then vs[o]? else g.imm blk o }
  have hnew : ∀ o, g'.imm w.heap.size o = vs[o]? := fun o => by show (if w.heap.size = w.heap.size then _ else _) = _; rw [if_pos rfl]
  have hold : ∀ blk o, blk ≠ w.heap.size → g'.imm blk o = g.imm blk o := fun blk o hx => by show (if blk = w.heap.size then _ else _) = _; rw [if_neg hx]
  have hle : Gh.Le g g' := ⟨rfl, rfl, fun _ _ h => h, fun blk o u hu => by
    rw [hold _ _ (fun e => by subst e; rw [h.imm_new (Nat.le_refl _)] at hu; cases hu)]; exact hu, fun _ _ h => h, fun _ h => h, fun q o hq => hold _ _ (by have := h.le; omega), fun _ _ => rfl⟩
  have hg := w.grownBy_alloc (.cells cur e) none
  refine ⟨g', hle, fun i u hu => by rw [Nat.zero_add, hnew]; exact hu, fun o ho => by rw [hnew]; simpa using ho, rfl, ?_⟩
  refine h.change w.heap.size h.le hle rfl rfl ⟨hg.os, hg.tape, hg.output, hg.size⟩ (fun k _ hk => hg.block k hk (by simp)) (fun q o hq => hold q o hq) (fun _ _ => rfl) (fun o u hu => ?_) (fun es c hr => ?_) (fun b x p k1 k2 => Nat.ne_of_lt (h.place_lt k1 k2)) (h.res_new (Nat.le_refl _))
  · rw [hnew] at hu
    have hcu : cur[o]? = some u := by
      rw [← Array.getElem?_toList, hc, List.getElem?_append_left (by
        rcases Nat.lt_or_ge o vs.length with h | h
        · exact h
        · simp [List.getElem?_eq_none h] at hu)]
      exact hu
    exact ⟨by rw [cell_of_row _ _ _ cur e (0, 0) (heap_alloc_new w _)]; exact hcu, h1 u (List.mem_of_getElem? (by rw [Array.getElem?_toList]; exact hcu))⟩
  · have : g.imap w.heap.size = some (es, c) := hr
    rw [h.imap_new (Nat.le_refl _)] at this; cases this

theorem Sim.imap_of_cells {g : Gh} {σ : St} {w : World} (h : Sim g σ w) {r : Nat} {c : Array Value} {e : TypeId} {f : Nat × Nat} (hh : w.heap[r]? = some (.cells c e f)) : g.imap r = none := by
  cases e : g.imap r with
  | none => rfl
  | some x => have := (h.imap r x.1 x.2 e).1; rw [hh] at this; cases this

/-- One block, that of a live box, gets other cells. -/
theorem Sim.setRow {g : Gh} {σ : St} {w : World} (h : Sim g σ w) {b : Nat} {l l' : List AV} {x : Place} (hb : σ.box b = some l) (hx : g.box b = some x)
    (cur : Array Value) (vs rest : List Value) (hsz : cur.size = x.size) (hc : cur.toList = vs ++ rest) (hl : RepL g l' vs) (h1 : ∀ u ∈ cur.toList, u.oneCell' = true) :
    Sim g (σ.setBox b l') (w.setRow x.blk cur) := by
  obtain ⟨x', cur0, vs0, rest0, k1, k2, k3, k4, k5, k6, k7, k8⟩ := h.box b l hb
  rw [hx] at k1; cases k1
  obtain ⟨y, hy, _⟩ := St.box_live hb
  exact h.rewrite hy hx ⟨rfl, rfl, rfl, by simp⟩ (fun k hk _ => setRow_other _ _ _ _ hk) k8 (h.imap_of_cells k3) ⟨cur, vs, rest, setRow_heap w x.blk cur0 cur x.e (0, 0) k3, hsz, hc, hl, h1, k8⟩

/-- A box, its type forgotten. -/
theorem Sim.reBox {g : Gh} {σ : St} {w : World} (h : Sim g σ w) {b : Nat} {l : List AV} (hb : σ.box b = some l) : Sim g (σ.setBox b l) w := by
  obtain ⟨y, hy, hyb⟩ := St.box_live hb
  obtain ⟨p, h1, h2, hp⟩ := h.live b _ hy
  obtain ⟨cur, vs, rest, h3, h4, h5, h6, h7, h8⟩ := hyb _ _ _ hp
  exact h.rewrite hy h1 ⟨rfl, rfl, rfl, Nat.le_refl _⟩ (fun _ _ _ => rfl) h8 (h.imap_of_cells h3) ⟨cur, vs, rest, h3, h4, h5, h6, h7, h8⟩
theorem list_get_split {cur cur' : Array Value} {a : Nat} {news : List Value} (ha : a ≤ cur.size) (hc' : cur'.toList = cur.toList.take a ++ news ++ cur.toList.drop (a + news.length)) (o : Nat) :
    cur'[o]? = if o < a then cur[o]? else if o < a + news.length then news[o - a]? else cur[o]? := by
  rw [← Array.getElem?_toList, hc', List.append_assoc]
  have hl : (cur.toList.take a).length = a := by simp; omega
  by_cases h1 : o < a
  · rw [if_pos h1, List.getElem?_append_left (by omega), List.getElem?_take, if_pos h1, Array.getElem?_toList]
  · rw [if_neg h1, List.getElem?_append_right (by omega), hl]
    by_cases h2 : o < a + news.length
    · rw [if_pos h2, List.getElem?_append_left (by omega)]
    · rw [if_neg h2, List.getElem?_append_right (by omega), List.getElem?_drop, Array.getElem?_toList]
      congr 1; omega

/-- A live token's block: cells behind the high water are written, and become known for ever; the token passes to a new one. -/
theorem Sim.tokRow {g : Gh} {σ : St} {w : World} (h : Sim g σ w) {τ : Nat} {t : Tok} {blk c : Nat} (ht : σ.tok τ = some t) (hg : g.tok τ = some (blk, c))
    (cur cur' : Array Value) (news : List Value) (m : Nat) (hcur : w.heap[blk]? = some (.cells cur t.e (0, 0))) (hlen : news.length = m * t.size) (hfit : t.n + m ≤ c)
    (hc' : cur'.toList = cur.toList.take (t.n * t.size) ++ news ++ cur.toList.drop (t.n * t.size + news.length)) (h1 : ∀ u ∈ news, u.oneCell' = true) :
    ∃ τ' g', (σ.del τ).Fresh τ' ∧ Gh.Le g g' ∧ g'.tok τ' = some (blk, c) ∧ ImmAt g' blk (t.n * t.size) news ∧ Sim g' ((σ.del τ).new τ' (.tok ⟨t.n + m, t.e, t.size⟩)) (w.setRow blk cur') := by
  obtain ⟨p, hp, hpb, hpc⟩ := Gh.tok_iff.1 hg
  dsimp only at hpb hpc
  subst hpb hpc
  obtain ⟨p', k1, k2, cur0, k3, k4, k5, k6, k7⟩ := h.live τ _ (St.tok_iff.1 ht)
  rw [hp] at k1; cases k1
  rw [hcur] at k3; cases k3
  have hcs : (t.n + m) * t.size ≤ cur.size := by rw [k4]; exact Nat.mul_le_mul_right _ hfit
  have hnm : (t.n + m) * t.size = t.n * t.size + news.length := by rw [hlen, Nat.add_mul]
  have hsz : cur'.size = cur.size := by
    have := congrArg List.length hc'
    simp only [Array.length_toList, List.length_append, List.length_take, List.length_drop] at this
    omega
  let g' : Gh := { g with imm := fun q o => if q = p.blk ∧ t.n * t.size ≤ o ∧ o < t.n * t.size + news.length then news[o - t.n * t.size]? else g.imm q o }
  have himm : ∀ q o, q ≠ p.blk → g'.imm q o = g.imm q o := fun q o hq => by
    show (if _ then _ else _) = _
    rw [if_neg (fun e => hq e.1)]
  have hle : Gh.Le g g' := ⟨rfl, rfl, fun _ _ h => h, fun q o u hu => by
      show (if _ then _ else _) = _
      rw [if_neg (fun e => by obtain ⟨rfl, e2, _⟩ := e; rw [k7 o e2] at hu; cases hu)]; exact hu, fun _ _ h => h, fun _ h => h, fun q o hq => himm _ _ (by omega), fun _ _ => rfl⟩
  have hrow := setRow_heap w p.blk cur cur' t.e (0, 0) hcur
  have hget := fun o => list_get_split (cur := cur) (cur' := cur') (a := t.n * t.size) (news := news) (by omega) hc' o
  have hno : ∀ b' x' p', (σ.del τ).live b' = some x' → g.place b' = some p' → p'.blk ≠ p.blk := fun b' x' p' h1 h2 e => by
    simp only [St.del] at h1
    split at h1
    · cases h1
    · rename_i ne; exact ne (h.apart _ _ _ _ _ _ h1 (St.tok_iff.1 ht) h2 hp e)
  have hs := (h.weaken (St.del_le σ τ)).change (w' := w.setRow p.blk cur') p.blk k2 hle rfl rfl ⟨rfl, rfl, rfl, by simp⟩ (fun k hk _ => setRow_other _ _ _ _ hk) himm (fun _ _ => rfl) (fun o u hu => by
      rw [cell_of_row _ _ _ cur' t.e (0, 0) hrow, hget]
      have hu' : (if p.blk = p.blk ∧ t.n * t.size ≤ o ∧ o < t.n * t.size + news.length then news[o - t.n * t.size]? else g.imm p.blk o) = some u := hu
      by_cases ho : o < t.n * t.size
      · rw [if_pos ho]
        rw [if_neg (by omega)] at hu'
        have := h.imm _ _ _ hu'
        rw [cell_of_row _ _ _ cur t.e (0, 0) hcur] at this
        exact this
      · rw [if_neg ho]
        by_cases ho2 : o < t.n * t.size + news.length
        · rw [if_pos ho2]
          rw [if_pos ⟨rfl, by omega, ho2⟩] at hu'
          exact ⟨hu', h1 u (List.mem_of_getElem? hu')⟩
        · rw [if_neg (by omega)] at hu'
          rw [k7 o (by omega)] at hu'; cases hu') (fun es c hr => by
      have hr : g.imap p.blk = some (es, c) := hr
      rw [h.imap_of_cells hcur] at hr; cases hr) hno (h.res_live (St.tok_iff.1 ht) hp)
  obtain ⟨τ', f1, f2, f3⟩ := hs.newName p k2 hno
  refine ⟨τ', _, f1, hle.trans f2, Gh.tok_iff.2 ⟨p, Gh.addPlace_self _ _ _, rfl, rfl⟩, fun i u hu => ?_, f3 _ ⟨cur', hrow, by rw [hsz]; exact k4, hfit, k6, fun o ho => ?_⟩⟩
  · have hi : i < news.length := by
      rcases Nat.lt_or_ge i news.length with h | h
      · exact h
      · simp [List.getElem?_eq_none h] at hu
    show (if _ then _ else _) = _
    rw [if_pos ⟨rfl, by omega, by omega⟩, Nat.add_sub_cancel_left]; exact hu
  · have ho : (t.n + m) * t.size ≤ o := ho
    show (if _ then _ else _) = _
    rw [if_neg (by omega)]; exact k7 o (by omega)

/-- A live thing is named anew (its old name is gone). -/
theorem Sim.rename {g : Gh} {σ : St} {w : World} (h : Sim g σ w) {b : Nat} {x : Live} {p : Place} (hb : σ.live b = some x) (hp : g.place b = some p) :
    ∃ b' g', (σ.del b).Fresh b' ∧ Gh.Le g g' ∧ g'.place b' = some p ∧ Sim g' ((σ.del b).new b' x) w := by
  obtain ⟨p', k1, k2, k3⟩ := h.live b x hb
  rw [hp] at k1; cases k1
  obtain ⟨b', f1, f2, f3⟩ := (h.weaken (St.del_le σ b)).newName p k2 (fun b' x' p' h1 h2 e => by
    simp only [St.del] at h1
    split at h1
    · cases h1
    · rename_i ne; exact ne (h.apart _ _ _ _ _ _ h1 hb h2 hp e))
  exact ⟨b', _, f1, f2, Gh.addPlace_self _ _ _, f3 x (k3.frame f2.r rfl (fun _ => rfl) rfl)⟩

/-- A new block, its first cells known for ever, with a token for it. -/
theorem Sim.newTok {g : Gh} {σ : St} {w : World} (h : Sim g σ w) (e : TypeId) (size n c : Nat) (cur : Array Value) (vs rest : List Value) (hc : cur.toList = vs ++ rest) (h1 : ∀ u ∈ cur.toList, u.oneCell' = true)
    (hvs : vs.length = n * size) (hcs : cur.size = c * size) (hnc : n ≤ c) (hcm : c ≤ maxLen) :
    ∃ τ g', σ.Fresh τ ∧ Gh.Le g g' ∧ g'.tok τ = some (w.heap.size, c) ∧ ImmAt g' w.heap.size 0 vs ∧ Sim g' (σ.new τ (.tok ⟨n, e, size⟩)) (w.alloc (.cells cur e)) := by
  obtain ⟨g1, hle1, himm, hno, hpl, hs⟩ := h.newImm e cur vs rest hc h1
  obtain ⟨τ, f1, f2, f3⟩ := hs.newName ⟨w.heap.size, e, c⟩ (by rw [hle1.base]; exact h.le) (fun b' x' p' k1 k2 => by rw [hpl] at k2; exact Nat.ne_of_lt (h.place_lt k1 k2))
  exact ⟨τ, _, f1, hle1.trans f2, Gh.tok_iff.2 ⟨_, Gh.addPlace_self _ _ _, rfl, rfl⟩, himm, f3 _ ⟨cur, heap_alloc_new w _, hcs, hnc, hcm, fun o ho => hno o (by rw [hvs]; exact ho)⟩⟩

/-- A live box is given up: its cells never change any more. -/
theorem Sim.freeze {g : Gh} {σ : St} {w : World} (h : Sim g σ w) {b : Nat} {l : List AV} {x : Place} (hb : σ.box b = some l) (hx : g.box b = some x) :
    ∃ g' vs, Gh.Le g g' ∧ g'.place = g.place ∧ ImmAt g' x.blk 0 vs ∧ RepL g l vs ∧ Sim g' (σ.del b) w := by
  obtain ⟨x', cur, vs, rest, k1, k2, k3, k4, k5, k6, k7, k8⟩ := h.box b l hb
  rw [hx] at k1; cases k1
  let g' : Gh := { g with imm := fun q o => if q = x.blk then cur[o]? else g.imm q o }
  have hnew : ∀ o, g'.imm x.blk o = cur[o]? := fun o => by show (if x.blk = x.blk then _ else _) = _; rw [if_pos rfl]
  have hold : ∀ q o, q ≠ x.blk → g'.imm q o = g.imm q o := fun q o hq => by show (if q = x.blk then _ else _) = _; rw [if_neg hq]
  have hle : Gh.Le g g' := ⟨rfl, rfl, fun _ _ h => h, fun q o u hu => by
    rw [hold _ _ (fun e => by subst e; rw [k8] at hu; cases hu)]; exact hu, fun _ _ h => h, fun _ h => h, fun q o hq => hold _ _ (by omega), fun _ _ => rfl⟩
  refine ⟨g', vs, hle, rfl, fun i u hu => by
    have hi : i < vs.length := by
      rcases Nat.lt_or_ge i vs.length with h | h
      · exact h
      · simp [List.getElem?_eq_none h] at hu
    rw [Nat.zero_add, hnew, ← Array.getElem?_toList, k5, List.getElem?_append_left hi]; exact hu, k6, ?_⟩
  obtain ⟨y, hy, _⟩ := St.box_live hb
  refine (h.weaken (St.del_le σ b)).change x.blk k2 hle rfl rfl ⟨rfl, rfl, rfl, Nat.le_refl _⟩ (fun _ _ _ => rfl) hold (fun _ _ => rfl) (fun o u hu => ?_) (fun es c hr => ?_) (fun b' x' p' h1 h2 e => ?_) (h.res_live hy hx)
  · rw [hnew] at hu
    rw [cell_of_row _ _ _ cur x.e (0, 0) k3]
    exact ⟨hu, k7 u (List.mem_of_getElem? (by rw [Array.getElem?_toList]; exact hu))⟩
  · have hr : g.imap x.blk = some (es, c) := hr
    rw [h.imap_of_cells k3] at hr; cases hr
  · simp only [St.del] at h1
    split at h1
    · cases h1
    · rename_i ne; exact ne (h.apart _ _ _ _ _ _ h1 hy h2 hx e)

/-- A live map is given up: it never changes any more. -/
theorem Sim.freezeMap {g : Gh} {σ : St} {w : World} (h : Sim g σ w) {m : Nat} {kv : List AV × List AV} (hm : σ.mp m = some kv) :
    ∃ g' r es clock, Gh.Le g g' ∧ g'.place = g.place ∧ g.mp m = some r ∧ g'.imap r = some (es, clock) ∧ MapOK g' kv.1 kv.2 es ∧ Sim g' (σ.del m) w := by
  obtain ⟨p, k1, k2, es, clock, k3, k4, k5, k6⟩ := h.live m _ (St.mp_iff.1 hm)
  let g' : Gh := { g with imap := fun q => if q = p.blk then some (es, clock) else g.imap q }
  have hnew : g'.imap p.blk = some (es, clock) := by show (if p.blk = p.blk then _ else _) = _; rw [if_pos rfl]
  have hold : ∀ q, q ≠ p.blk → g'.imap q = g.imap q := fun q hq => by show (if q = p.blk then _ else _) = _; rw [if_neg hq]
  have hle : Gh.Le g g' := ⟨rfl, rfl, fun _ _ h => h, fun _ _ _ h => h, fun q x hx => by
    rw [hold _ (fun e => by subst e; rw [k6] at hx; cases hx)]; exact hx, fun _ h => h, fun _ _ _ => rfl, fun q hq => hold _ (by omega)⟩
  refine ⟨g', p.blk, es, clock, hle, rfl, Gh.mp_iff.2 ⟨p, k1, rfl⟩, hnew, k5.monoR hle.r, ?_⟩
  refine (h.weaken (St.del_le σ m)).change p.blk k2 hle rfl rfl ⟨rfl, rfl, rfl, Nat.le_refl _⟩ (fun _ _ _ => rfl) (fun _ _ _ => rfl) hold (fun o u hu => ?_) (fun es' c hr => ?_) (fun b' x' p' h1 h2 e => ?_) (h.res_live (St.mp_iff.1 hm) k1)
  · exact h.imm _ _ _ hu
  · rw [hnew] at hr; cases hr; exact ⟨k3, k4⟩
  · simp only [St.del] at h1
    split at h1
    · cases h1
    · rename_i ne; exact ne (h.apart _ _ _ _ _ _ h1 (St.mp_iff.1 hm) h2 k1 e)

/-- A live map's entries change. -/
theorem Sim.setMap {g : Gh} {σ : St} {w : World} (h : Sim g σ w) {m r : Nat} {kv kv' : List AV × List AV} {es es' : Array MapEntry} {clock clock' : Nat} (hm : σ.mp m = some kv) (hg : g.mp m = some r) (hh : w.heap[r]? = some (.map es clock))
    (h1 : MapOK g kv'.1 kv'.2 es') (h2 : BornOK es' clock') :
    Sim g (σ.setMp m kv') { w with heap := w.heap.setIfInBounds r (Obj.map es' clock') } := by
  obtain ⟨p, hp, rfl⟩ := Gh.mp_iff.1 hg
  obtain ⟨p', k1, k2, es0, cl0, k3, k4, k5, k6⟩ := h.live m _ (St.mp_iff.1 hm)
  rw [hp] at k1; cases k1
  have hlt := (Array.getElem?_eq_some_iff.1 hh).1
  have hne : ∀ k, k ≠ p.blk → (w.heap.setIfInBounds p.blk (Obj.map es' clock'))[k]? = w.heap[k]? := fun k hk => Array.getElem?_setIfInBounds_ne (Ne.symm hk)
  have hnew : (w.heap.setIfInBounds p.blk (Obj.map es' clock'))[p.blk]? = some (Obj.map es' clock') := by simp [hlt]
  exact h.rewrite (St.mp_iff.1 hm) hp ⟨rfl, rfl, rfl, by simp⟩ (fun k hk _ => hne k hk) (fun o => by
    cases e : g.imm p.blk o with
    | none => rfl
    | some u => have := (h.imm _ _ _ e).1; simp [World.cell?, hh] at this) k6 ⟨es', clock', hnew, h2, h1, k6⟩

/-- A block of deferred calls is shut. -/
theorem Sim.shut {g : Gh} {σ : St} {w : World} (h : Sim g σ w) {r : Nat} (hr : g.res r = true) : Sim { g with res := fun x => if x = r then false else g.res x } σ { w with heap := w.heap.setIfInBounds r (Obj.deferred none) } := by
  obtain ⟨k2, hh⟩ := h.res r hr
  have hne : ∀ k, k ≠ r → (w.heap.setIfInBounds r (Obj.deferred none))[k]? = w.heap[k]? := fun k hk => Array.getElem?_setIfInBounds_ne (Ne.symm hk)
  have hl : Gh.LeR g { g with res := fun x => if x = r then false else g.res x } := ⟨fun _ _ h => h, fun _ _ _ h => h, fun _ _ h => h⟩
  exact {
    below := h.below.trans ⟨rfl, rfl, rfl, by simp, fun k hk => hne k (by have := h.le; omega)⟩
    le := by simpa using h.le
    imm := fun blk o u hi => by
      have hi' := h.imm _ _ _ hi
      have : World.cell? { w with heap := w.heap.setIfInBounds r (Obj.deferred none) } ⟨blk, o, none⟩ = w.cell? ⟨blk, o, none⟩ := by
        simp only [World.cell?]
        rw [hne blk (fun e => by subst e; simp [World.cell?, hh] at hi')]
      rw [this]; exact hi'
    imap := fun r' es c hr => by
      obtain ⟨h1, h2⟩ := h.imap r' es c hr
      refine ⟨?_, h2⟩
      show (w.heap.setIfInBounds r (Obj.deferred none))[r']? = _
      rw [hne r' (fun e => by subst e; rw [hh] at h1; cases h1)]; exact h1
    live := fun b x hb => by
      obtain ⟨p, h1, h2, h3⟩ := h.live b x hb
      exact ⟨p, h1, h2, h3.frame hl (hne _ (h3.notMark hh)) (fun _ => rfl) rfl⟩
    apart := h.apart
    res := fun r' hr' => by
      have hr' : (if r' = r then false else g.res r') = true := hr'
      split at hr'
      · cases hr'
      · rename_i e
        obtain ⟨q1, q2⟩ := h.res r' hr'
        exact ⟨q1, by show (w.heap.setIfInBounds r (Obj.deferred none))[r']? = _; rw [hne r' e]; exact q2⟩
    fin := h.fin }
/-- A new block of deferred calls. -/
theorem Sim.newMark {g : Gh} {σ : St} {w : World} (h : Sim g σ w) : Gh.Le g { g with res := fun x => if x = w.heap.size then true else g.res x } ∧ Sim { g with res := fun x => if x = w.heap.size then true else g.res x } σ (w.alloc (.deferred (some []))) := by
  have hl : Gh.LeR g { g with res := fun x => if x = w.heap.size then true else g.res x } := ⟨fun _ _ h => h, fun _ _ _ h => h, fun _ _ h => h⟩
  refine ⟨⟨rfl, rfl, fun _ _ h => h, fun _ _ _ h => h, fun _ _ h => h, fun b hb => by show (if _ then _ else _) = _; split <;> simp_all, fun _ _ _ => rfl, fun _ _ => rfl⟩, ?_⟩
  have hs := h.grow (w.grownBy_alloc (.deferred (some [])) none)
  exact {
    below := hs.below
    le := hs.le
    imm := hs.imm
    imap := hs.imap
    live := fun b x hb => by
      obtain ⟨p, h1, h2, h3⟩ := hs.live b x hb
      exact ⟨p, h1, h2, h3.frame hl rfl (fun _ => rfl) rfl⟩
    apart := hs.apart
    res := fun r hr => by
      have hr : (if r = w.heap.size then true else g.res r) = true := hr
      split at hr
      · rename_i e; subst e; exact ⟨h.le, heap_alloc_new w _⟩
      · exact hs.res r hr
    fin := hs.fin }
end Go.Rip

set_option linter.loopingSimpArgs false
namespace Go.Rip
open Go.RowKit

/-! ### What the operations ask of the type table (closed facts, by the kernel) -/
def ofScalar : Value → Option AV
  | .bool b => some (.bool b)
  | .int k n => some (.int k n)
  | .string s => some (.str s.data.toList)
  | .pointer none => some .nilptr
  | .slice none 0 0 => some .nilslice
  | .map none => some .nilmap
  | .nilFunc => some .nilfunc
  | .nilIface => some .niliface
  | _ => none
def aggO : Option (List AV) → AV
  | some l => .agg l
  | none => .any
def cst : Value → AV
  | .agg cs => aggO (cs.toList.mapM ofScalar)
  | .func fn f c => if f.isEmpty && c.isEmpty then .func fn [] [] else .any
  | .tuple vs => if vs.isEmpty then .tup [] else .any
  | v => (ofScalar v).getD .any
def aggD : TypeDesc → Bool
  | .struct _ | .array _ _ => true
  | _ => false
/-- A variable's type: is it an aggregate; how many cells. -/
def varT (P : Program) (t : TypeId) : Option (Bool × Nat) :=
  match P.info? t, P.underlying t with
  | some i, some d => some (aggD d, i.size)
  | _, _ => none
/-- The zero value's cells. -/
def zeroC (P : Program) (t : TypeId) : Option (List AV) := ((P.info? t).bind (·.zero)).bind fun z => z.cells.toList.mapM ofScalar
/-- A slice's type: its element, how many cells it has. -/
def sliceT (P : Program) (t : TypeId) : Option (TypeId × Nat) :=
  match P.underlying t with
  | some (.slice e) => match P.info? e with
    | some i => match i.zero with
      | some z => if z.cells.size = i.size ∧ 0 < i.size ∧ i.bytes ≤ 32768 ∧ z.cells.all (·.oneCell') then some (e, i.size) else none
      | none => none
    | none => none
  | _ => none
/-- Where a field of a struct lies. -/
def fieldT (P : Program) (s : TypeId) (f : Nat) : Option Nat :=
  match P.underlying s with
  | some (.struct fields) => match fields[f]? with
    | some x => if P.cellsOf x.type ≠ 0 then some x.offset else none
    | none => none
  | _ => none
def structT (P : Program) (t : TypeId) : Option (List (Nat × Nat)) :=
  match P.underlying t with
  | some (.struct fields) => if fields.all (fun f => (P.info? f.type).isSome) then some (fields.toList.map fun f => (f.offset, P.cellsOf f.type)) else none
  | _ => none
/-- A function that is entered when it is called. -/
def entersT (P : Program) (f : FuncId) : Bool :=
  match P.funcs[f]? with
  | some fn => fn.body.isSome && !(fn.name == "runtime.NumGoroutine")
  | none => false

structure Cfg where
  P : Program
  glob : Nat → AV
  fixed : Nat → Option (Array Value) := fun _ => none
/-- The package's variables: what is known of their cells; those whose block is known whole. -/
def GlobOK (C : Cfg) (g : Gh) : Prop := (∀ i, Rep g (C.glob i) (.pointer (some ⟨i, 0, none⟩))) ∧ ∀ i cs, C.fixed i = some cs → i < g.base ∧ ∃ t fr, g.w0.heap[i]? = some (.cells cs t fr)
theorem GlobOK.mono {C : Cfg} {g g' : Gh} (h : GlobOK C g) (hl : Gh.Le g g') : GlobOK C g' := ⟨fun i => (h.1 i).mono hl, fun i cs hi => by rw [hl.base, hl.w0]; exact h.2 i cs hi⟩

structure Env where
  get : Nat → AV
def Env.put (ρ : Env) (d : Nat) (v : AV) : Env := ⟨fun t => if t = d then v else ρ.get t⟩
def Env.putO (ρ : Env) : Option Nat → AV → Env
  | some d, v => ρ.put d v
  | none, _ => ρ
def Env.ev (C : Cfg) (ρ : Env) : Operand → AV
  | .tmp t => ρ.get t
  | .const v => cst v
  | .global g => C.glob g
  | .func f => .func (.func f) [] []
def RepE (g : Gh) (ρ : Env) (tmps : Array Value) : Prop := ∀ t, Rep g (ρ.get t) (tmps.getD t undef)
theorem RepE.mono {g g' : Gh} (h : Gh.Le g g') {ρ : Env} {tmps : Array Value} (hr : RepE g ρ tmps) : RepE g' ρ tmps := fun t => (hr t).mono h
theorem RepE.put {g : Gh} {ρ : Env} {tmps : Array Value} (hr : RepE g ρ tmps) {d : Nat} {x : AV} {v : Value} (hd : d < tmps.size) (hx : Rep g x v) : RepE g (ρ.put d x) (tmps.setIfInBounds d v) := fun t => by
  simp only [Env.put]
  by_cases ht : t = d
  · subst ht
    rw [if_pos rfl]
    simpa [Array.getD, hd] using hx
  · rw [if_neg ht]
    have := hr t
    simp only [Array.getD_eq_getD_getElem?] at this ⊢
    rw [Array.getElem?_setIfInBounds_ne (Ne.symm ht)]
    exact this

theorem ofScalar_rep {g : Gh} {v : Value} {x : AV} (h : ofScalar v = some x) : Rep g x v ∧ v.oneCell' = true := by
  unfold ofScalar at h
  split at h <;> first
    | (cases h; simp [Rep, Value.oneCell']; done)
    | cases h
theorem mapM_ofScalar_rep {g : Gh} : ∀ {vs : List Value} {l : List AV}, vs.mapM ofScalar = some l → RepL g l vs ∧ ∀ u ∈ vs, u.oneCell' = true
  | [], l, h => by
    simp at h; subst h; simp [RepL]
  | v :: vs, l, h => by
    simp only [List.mapM_cons, bind, Option.bind_eq_some_iff, pure, Option.some.injEq] at h
    obtain ⟨x, hx, l', hl', rfl⟩ := h
    obtain ⟨h1, h2⟩ := ofScalar_rep (g := g) hx
    obtain ⟨h3, h4⟩ := mapM_ofScalar_rep (g := g) hl'
    refine ⟨by simp only [RepL]; exact ⟨v, vs, rfl, h1, h3⟩, fun u hu => ?_⟩
    simp only [List.mem_cons] at hu
    rcases hu with rfl | hu
    · exact h2
    · exact h4 u hu
theorem scalar_rep {g : Gh} (v : Value) : Rep g ((ofScalar v).getD .any) v := by
  cases h : ofScalar v with
  | none => simp only [Option.getD_none, Rep]
  | some x => exact (ofScalar_rep h).1
theorem cst_rep {g : Gh} (v : Value) : Rep g (cst v) v := by
  cases v with
  | agg cs =>
    simp only [cst]
    cases h : cs.toList.mapM ofScalar with
    | none => simp only [aggO, Rep]
    | some l => simp only [aggO, Rep]; exact ⟨cs.toList, by simp, (mapM_ofScalar_rep (g := g) h).2, (mapM_ofScalar_rep h).1⟩
  | func fn f c =>
    simp only [cst]
    split
    · rename_i h
      simp only [Bool.and_eq_true, Array.isEmpty_iff] at h
      obtain ⟨rfl, rfl⟩ := h
      simp only [Rep]; exact ⟨[], [], rfl, by simp [RepL], by simp [RepL]⟩
    · simp only [Rep]
  | tuple vs =>
    simp only [cst]
    split
    · rename_i h
      simp only [Array.isEmpty_iff] at h
      subst h
      simp only [Rep]; exact ⟨[], rfl, by simp [RepL]⟩
    · simp only [Rep]
  | _ => simp only [cst]; exact scalar_rep _
theorem ev_rep {C : Cfg} {g : Gh} (hG : GlobOK C g) {ρ : Env} {a : Act} (hr : RepE g ρ a.tmps) (x : Operand) : Rep g (ρ.ev C x) (a.eval x) := by
  cases x with
  | tmp t => exact hr t
  | const v => exact cst_rep v
  | global i => exact hG.1 i
  | func f => simp only [Env.ev, Act.eval, Rep]; exact ⟨[], [], rfl, by simp [RepL], by simp [RepL]⟩

/-! ### What an operation comes to -/
/-- The value that a new name is. -/
inductive NV where
  | box
  | tok (n : Nat) (l : List AV)
  | ms (n esz : Nat) (e : TypeId)
  | mp
  | it
def NV.at (b : Nat) : NV → AV
  | .box => .box b 0
  | .tok n l => .vec n (.own b) l
  | .ms n esz e => .ms b 0 n esz e
  | .mp => .mp b
  | .it => .it b
inductive OpR where
  | val (v : AV)
  | upd (v : AV) (b : Nat) (x : Live)
  | new (k : NV) (del : Option Nat) (x : Live)
  | anyOf (b : Nat) (l : List (AV × Live))
  | enter (f : FuncId) (args : List AV)
  | yield (l : Nat) (args : List AV)
  | panic (v : AV)
  | cond (p : Prop) [d : Decidable p] (r : OpR)
  | bad
abbrev OpR.newBox (l : List AV) : OpR := .new .box none (.box l)
abbrev OpR.newTok (n : Nat) (l : List AV) (del : Option Nat) (t : Tok) : OpR := .new (.tok n l) del (.tok t)
abbrev OpR.newMs (n esz : Nat) (e : TypeId) (del : Option Nat) (l : List AV) : OpR := .new (.ms n esz e) del (.box l)
abbrev OpR.newMp : OpR := .new .mp none (.mp [] [])

def St.delO (σ : St) : Option Nat → St
  | some b => σ.del b
  | none => σ

/-- What the machine's step must be where the abstract one is r. -/
def OpR.Fits (C : Cfg) (g : Gh) (σ : St) : OpR → Result Next → Prop
  | .val v, res => ∃ u w' g', (res = .ok (.value u) w' ∨ (res = .ok .skip w' ∧ u = undef)) ∧ Gh.Le g g' ∧ Sim g' σ w' ∧ Rep g' v u
  | .upd v b x, res => ∃ u w' g', (res = .ok (.value u) w' ∨ (res = .ok .skip w' ∧ u = undef)) ∧ Gh.Le g g' ∧ Sim g' (σ.set b x) w' ∧ Rep g' v u
  | .new k del x, res => ∃ u w' g' b, res = .ok (.value u) w' ∧ (σ.delO del).Fresh b ∧ Gh.Le g g' ∧ Sim g' ((σ.delO del).new b x) w' ∧ Rep g' (k.at b) u
  | .anyOf b l, res => ∃ u w' g' v x, res = .ok (.value u) w' ∧ (v, x) ∈ l ∧ Gh.Le g g' ∧ Sim g' (σ.set b x) w' ∧ Rep g' v u
  | .enter f args, res => ∃ vs w', res = .ok (.enter f (List.toArray vs)) w' ∧ Sim g σ w' ∧ RepL g args vs
  | .yield o args, res => ∃ vs x w w', g.place o = some x ∧ res = (Instr.yield x.blk (List.toArray vs)).run C.P w ∧ w' = w ∧ Sim g σ w ∧ RepL g args vs
  | .panic v, res => ∃ u w', res = .halt (.panic u) w' ∧ Sim g σ w' ∧ Rep g v u
  | @OpR.cond p _ r, res => p → r.Fits C g σ res
  | .bad, _ => True

theorem fits_val {C : Cfg} {g : Gh} {σ : St} {w : World} {v : AV} {u : Value} (h : Sim g σ w) (hr : Rep g v u) : OpR.Fits C g σ (.val v) (.ok (.value u) w) :=
  ⟨u, w, g, .inl rfl, Gh.Le.refl g, h, hr⟩

/-! ### Integers, bools, strings -/
def I64 (n : Int) : Prop := -9223372036854775808 ≤ n ∧ n ≤ 9223372036854775807
instance (n : Int) : Decidable (I64 n) := inferInstanceAs (Decidable (_ ∧ _))
theorem wrap_I64 {n : Int} (h : I64 n) : IntKind.i64.wrap n = n := by
  obtain ⟨h1, h2⟩ := h
  have e : IntKind.i64.wrap n = if n % 18446744073709551616 ≥ 9223372036854775808 then n % 18446744073709551616 - 18446744073709551616 else n % 18446744073709551616 := by
    simp [IntKind.wrap, IntKind.bits, IntKind.signed]
  rw [e]
  split <;> omega
def isBoolT (P : Program) (t : TypeId) : Bool := match P.underlying t with | some .bool => true | _ => false
def isIfaceT (P : Program) (t : TypeId) : Bool := match P.underlying t with | some (.interface _) => true | _ => false
def isPtrT (P : Program) (t : TypeId) : Bool := match P.underlying t with | some (.pointer _) => true | _ => false
def arithA (k : IntKind) (n : Int) : OpR :=
  match k with
  | .i64 => .cond (I64 n) (.val (.int .i64 n))
  | k => .val (.int k (k.wrap n))

/-- The kinds of a flat struct's fields. -/
inductive FK where
  | i
  | s
  | b
/-- Are two lists of scalar cells the same? -/
def eqK : List FK → List AV → List AV → Option Bool
  | [], [], [] => some true
  | .i :: ks, .int k a :: xs, .int k' b :: ys => if k = k' then (eqK ks xs ys).map fun r => (a == b) && r else none
  | .s :: ks, .str a :: xs, .str b :: ys => (eqK ks xs ys).map fun r => (a == b) && r
  | .b :: ks, .bool a :: xs, .bool b :: ys => (eqK ks xs ys).map fun r => (a == b) && r
  | _, _, _ => none
/-- A struct whose fields are integers, bools and strings, each one cell, in their order, all with names. -/
def fieldK (P : Program) (f : Field) (i : Nat) : Option FK :=
  if f.offset = i ∧ f.name ≠ "_" then
    match P.underlying f.type with
    | some .bool => some .b
    | some (.int _) => some .i
    | some .string => some .s
    | _ => none
  else none
def fieldsK (P : Program) : List Field → Nat → Option (List FK)
  | [], _ => some []
  | f :: fs, i => match fieldK P f i, fieldsK P fs (i + 1) with
    | some k, some ks => some (k :: ks)
    | _, _ => none
def flatT (P : Program) (t : TypeId) : Option (List FK) :=
  match P.underlying t with
  | some (.struct fields) => if P.stoodInHeld t = false ∧ P.eqGuardType P.depth t = false then fieldsK P fields.toList 0 else none
  | _ => none
def eqA (P : Program) (t : TypeId) (a b : List AV) : Option Bool :=
  match flatT P t with
  | some ks => eqK ks a b
  | none => none
def valO (f : Bool → AV) : Option Bool → OpR
  | some r => .val (f r)
  | none => .bad

def binA (P : Program) (op : BinOp) (t : TypeId) (x y : AV) : OpR :=
  match op, x, y with
  | .add, .int k a, .int k' b => if k = k' then arithA k (a + b) else .bad
  | .sub, .int k a, .int k' b => if k = k' then arithA k (a - b) else .bad
  | .mul, .int k a, .int k' b => if k = k' then arithA k (a * b) else .bad
  | .quo, .int k a, .int k' b => if k = k' then .cond (b ≠ 0) (arithA k (a.tdiv b)) else .bad
  | .rem, .int k a, .int k' b => if k = k' then .cond (b ≠ 0) (.val (.int k (a.tmod b))) else .bad
  | .and, .int k a, .int k' b => if k = k' then .val (.int k (k.wrap (BitVec.ofInt k.bits a &&& BitVec.ofInt k.bits b).toNat)) else .bad
  | .or, .int k a, .int k' b => if k = k' then .val (.int k (k.wrap (BitVec.ofInt k.bits a ||| BitVec.ofInt k.bits b).toNat)) else .bad
  | .eql, .int k a, .int k' b => if k = k' then .val (.bool (a == b)) else .bad
  | .neq, .int k a, .int k' b => if k = k' then .val (.bool (a != b)) else .bad
  | .lss, .int k a, .int k' b => if k = k' then .val (.bool (decide (a < b))) else .bad
  | .leq, .int k a, .int k' b => if k = k' then .val (.bool (decide (a ≤ b))) else .bad
  | .gtr, .int k a, .int k' b => if k = k' then .val (.bool (decide (a > b))) else .bad
  | .geq, .int k a, .int k' b => if k = k' then .val (.bool (decide (a ≥ b))) else .bad
  | .eql, .str a, .str b => .val (.bool (a == b))
  | .neq, .str a, .str b => .val (.bool (a != b))
  | .add, .str a, .str b => .cond (a.length + b.length ≤ 4294967296) (.val (.str (a ++ b)))
  | .eql, .bool a, .bool b => if isBoolT P t = true then .val (.bool (a == b)) else .bad
  | .neq, .bool a, .bool b => if isBoolT P t = true then .val (.bool (a != b)) else .bad
  | .eql, .agg a, .agg b => valO .bool (eqA P t a b)
  | .neq, .agg a, .agg b => valO (fun r => .bool (!r)) (eqA P t a b)
  | .eql, .iface _ _, .niliface => if isIfaceT P t = true then .val (.bool false) else .bad
  | .neq, .iface _ _, .niliface => if isIfaceT P t = true then .val (.bool true) else .bad
  | .eql, .nilptr, .nilptr => if isPtrT P t = true then .val (.bool true) else .bad
  | .eql, .box _ _, .nilptr => if isPtrT P t = true then .val (.bool false) else .bad
  | .neq, .nilptr, .nilptr => if isPtrT P t = true then .val (.bool false) else .bad
  | .neq, .box _ _, .nilptr => if isPtrT P t = true then .val (.bool true) else .bad
  | .eql, .eptr _, .nilptr => if isPtrT P t = true then .val (.bool false) else .bad
  | .neq, .eptr _, .nilptr => if isPtrT P t = true then .val (.bool true) else .bad
  | _, _, _ => .bad

def isLit : Operand → Bool
  | .const _ => true
  | _ => false
/-- With two nil values of an interface type: one of them the literal. -/
def binL (P : Program) (op : BinOp) (t : TypeId) (lit : Bool) (x y : AV) : OpR :=
  match op, x, y with
  | .eql, .niliface, .niliface => if isIfaceT P t = true ∧ lit = true then .val (.bool true) else .bad
  | .neq, .niliface, .niliface => if isIfaceT P t = true ∧ lit = true then .val (.bool false) else .bad
  | op, x, y => binA P op t x y

end Go.Rip

set_option linter.unusedSimpArgs false
set_option linter.unusedVariables false
set_option linter.loopingSimpArgs false
namespace Go.Rip
open Go.RowKit

def AV.scalar : AV → Bool
  | .agg _ | .tup _ | .any => false
  | _ => true
def cellsA : AV → List AV
  | .agg l => l
  | v => [v]
theorem scalar_oneCell {g : Gh} {x : AV} {v : Value} (h : Rep g x v) (hs : x.scalar = true) : v.oneCell' = true := by
  cases x <;> simp only [AV.scalar, Bool.false_eq_true] at hs <;> simp only [Rep] at h
  all_goals first
    | (subst h; rfl)
    | (obtain ⟨_, _, rfl⟩ := h; rfl)
    | (obtain ⟨_, _, _, rfl, _⟩ := h; rfl)
    | (obtain ⟨_, _, _, _, rfl, _⟩ := h; rfl)
    | (obtain ⟨_, _, _, rfl, _⟩ := h; rfl)
    | (obtain ⟨_, _, rfl, _⟩ := h; rfl)
    | (obtain ⟨_, rfl, _⟩ := h; rfl)
    | (obtain ⟨_, _, _, _, rfl, _⟩ := h; rfl)

/-- A value that can lie in cells: an aggregate, or one cell. -/
def AV.lies : AV → Bool
  | .tup _ | .any => false
  | _ => true
theorem cells_rep {g : Gh} {x : AV} {v : Value} (h : Rep g x v) (hs : x.lies = true) : RepL g (cellsA x) v.cells.toList ∧ ∀ u ∈ v.cells.toList, u.oneCell' = true := by
  by_cases ha : ∃ l, x = .agg l
  · obtain ⟨l, rfl⟩ := ha
    simp only [Rep] at h
    obtain ⟨vs, rfl, h1, h2⟩ := h
    exact ⟨by simpa [cellsA, Value.cells] using h2, by simpa [Value.cells] using h1⟩
  · have hsc : x.scalar = true := by cases x <;> simp_all [AV.lies, AV.scalar]
    have h1 := scalar_oneCell h hsc
    have hc : cellsA x = [x] := by cases x <;> simp_all [cellsA]
    have hv : v.cells = #[v] := by cases v <;> simp_all [Value.cells, Value.oneCell']
    rw [hc, hv]
    exact ⟨by simp only [RepL]; exact ⟨v, [], rfl, h, rfl⟩, by simpa using h1⟩

/-- The cells from a pointer on. -/
def cellsAt (σ : St) : AV → Option (List AV)
  | .box b off => (σ.box b).map (·.drop off)
  | .eptr l => some l
  | _ => none
theorem cellsAt_rep {g : Gh} {σ : St} {w : World} (h : Sim g σ w) {p : AV} {v : Value} {l : List AV} (hp : Rep g p v) (hl : cellsAt σ p = some l) :
    ∃ a vs, v = .pointer (some a) ∧ a.spot = none ∧ RepL g l vs ∧ ∀ j u, vs[j]? = some u → w.cell? (a.add j) = some u ∧ u.oneCell' = true := by
  have hadd : ∀ blk off j, (⟨blk, off, none⟩ : Addr).add j = ⟨blk, off + j, none⟩ := fun blk off j => by unfold Addr.add; split <;> simp_all
  cases p <;> simp only [cellsAt, reduceCtorEq] at hl
  · rename_i b off
    cases hb : σ.box b with
    | none => simp [hb] at hl
    | some l0 =>
      simp [hb] at hl
      subst hl
      simp only [Rep] at hp
      obtain ⟨x, hx, rfl⟩ := hp
      obtain ⟨x', cur, vs, rest, k1, k2, k3, k4, k5, k6, k7, k8⟩ := h.box b l0 hb
      rw [hx] at k1; cases k1
      refine ⟨⟨x.blk, off, none⟩, vs.drop off, rfl, rfl, k6.drop off, fun j u hu => ?_⟩
      rw [hadd, cell_of_row _ _ _ cur x.e (0, 0) k3]
      rw [List.getElem?_drop] at hu
      have hlt : off + j < vs.length := by
        rcases Nat.lt_or_ge (off + j) vs.length with h | h
        · exact h
        · simp [List.getElem?_eq_none h] at hu
      have : cur[off + j]? = some u := by rw [← Array.getElem?_toList, k5, List.getElem?_append_left hlt]; exact hu
      exact ⟨this, k7 u (List.mem_of_getElem? (by rw [Array.getElem?_toList]; exact this))⟩
  · cases hl
    simp only [Rep] at hp
    obtain ⟨blk, off, vs, rfl, hi, hr⟩ := hp
    exact ⟨⟨blk, off, none⟩, vs, rfl, rfl, hr, fun j u hu => by rw [hadd]; exact h.imm _ _ _ (hi j u hu)⟩

def headR : List AV → OpR
  | x :: _ => .val x
  | [] => .bad
def loadA (P : Program) (t : TypeId) (p : AV) (σ : St) : OpR :=
  match varT P t, cellsAt σ p with
  | some (true, sz), some l => .cond (sz ≤ l.length) (.val (.agg (l.take sz)))
  | some (false, _), some l => headR l
  | _, _ => .bad

theorem varT_spec {P : Program} {t : TypeId} {b : Bool} {sz : Nat} (h : varT P t = some (b, sz)) :
    ∃ i d, P.info? t = some i ∧ P.underlying t = some d ∧ aggD d = b ∧ i.size = sz := by
  unfold varT at h
  split at h
  · rename_i i d hi hd
    simp only [Option.some.injEq, Prod.mk.injEq] at h
    exact ⟨i, d, hi, hd, h.1, h.2⟩
  · cases h
theorem run_isAgg {P : Program} {t : TypeId} {d : TypeDesc} (h : P.underlying t = some d) (w : World) : (isAgg t).run P w = .ok (aggD d) w := by
  simp only [isAgg, Sem.run_bind, run_underlying h, Result.andThen_ok]
  cases d <;> rfl
theorem run_sizeOf' {P : Program} {t : TypeId} {i : TypeInfo} (h : P.info? t = some i) (w : World) : (sizeOf t).run P w = .ok i.size w := by
  simp [sizeOf, typeInfo, h]

section
variable {C : Cfg} {g : Gh} {σ : St} {w : World}
theorem loadA_fits (h : Sim g σ w) {t : TypeId} {p : AV} {v : Value} (hp : Rep g p v) : OpR.Fits C g σ (loadA C.P t p σ) ((do let x ← Instr.loadAt t v; pure (Next.value x) : Sem Next).run C.P w) := by
  unfold loadA
  split
  · rename_i b sz l hv hl
    obtain ⟨i, d, hi, hd, hb, hsz⟩ := varT_spec hv
    obtain ⟨a, vs, rfl, ha, hr, hc⟩ := cellsAt_rep h hp hl
    intro hle
    have hlen := hr.length
    have hrun : (loadCells a (vs.take sz).length).run C.P w = .ok (vs.take sz).toArray w :=
      run_loadCells_list (P := C.P) w a (vs.take sz) fun j u hu => by
        rw [List.getElem?_take] at hu
        split at hu
        · exact (hc j u hu).1
        · cases hu
    have hl2 : (vs.take sz).length = sz := by simp; omega
    rw [hl2] at hrun
    simp only [Instr.loadAt, Instr.sureAddr, loadVar, Sem.run_bind, Sem.run_pure, Result.andThen_ok, run_isAgg hd, hb, if_true, run_sizeOf' hi, hsz, hrun, Sem.run_ite]
    have h1c : ∀ u ∈ vs.take sz, u.oneCell' = true := fun u hu => by
      obtain ⟨j, hj⟩ := List.getElem?_of_mem hu
      rw [List.getElem?_take] at hj
      split at hj
      · exact (hc j u hj).2
      · cases hj
    exact fits_val h (by simp only [Rep]; exact ⟨_, rfl, h1c, hr.take sz⟩)
  · rename_i b sz l hv hl
    obtain ⟨i, d, hi, hd, hb, hsz⟩ := varT_spec hv
    obtain ⟨a, vs, rfl, ha, hr, hc⟩ := cellsAt_rep h hp hl
    cases l with
    | nil => trivial
    | cons x xs =>
      simp only [RepL] at hr
      obtain ⟨u, us, rfl, h1, h2⟩ := hr
      have := (hc 0 u rfl).1
      have h0 : a.add 0 = a := by simp [Addr.add]
      rw [h0] at this
      simp only [Instr.loadAt, Instr.sureAddr, loadVar, Sem.run_bind, Sem.run_pure, Result.andThen_ok, run_isAgg hd, hb, Bool.false_eq_true, if_false, run_load, this, Sem.run_ite]
      exact fits_val h h1
  · trivial

/-- Part of a list of cells anew. -/
def spliceL (l : List AV) (off : Nat) (cs : List AV) : List AV := l.take off ++ cs ++ l.drop (off + cs.length)
def storeA (P : Program) (t : TypeId) (p v : AV) (σ : St) : OpR :=
  match varT P t, p with
  | some (_, sz), .box b off => match σ.box b with
    | some l => .cond (v.lies = true ∧ (cellsA v).length = sz ∧ off + sz ≤ l.length) (.upd (.tup []) b (.box (spliceL l off (cellsA v))))
    | none => .bad
  | _, _ => .bad

theorem storeCells_box (h : Sim g σ w) {b off : Nat} {l : List AV} {x : Place} (hb : σ.box b = some l) (hx : g.box b = some x) {cs : List AV} {us : List Value} (hr : RepL g cs us) (h1 : ∀ u ∈ us, u.oneCell' = true)
    (hfit : off + cs.length ≤ l.length) : ∃ w', (storeCells ⟨x.blk, off, none⟩ us).run C.P w = .ok () w' ∧ Sim g (σ.setBox b (spliceL l off cs)) w' := by
  obtain ⟨x', cur, vs, rest, k1, k2, k3, k4, k5, k6, k7, k8⟩ := h.box b l hb
  rw [hx] at k1; cases k1
  have hl1 := hr.length
  have hl2 := k6.length
  have hsz : cur.size = vs.length + rest.length := by rw [← Array.length_toList, k5, List.length_append]
  have hrun := run_storeCells_at C.P x.blk off x.e us 0 cur w k3 (by omega) h1
  simp only [Nat.add_zero] at hrun
  refine ⟨_, hrun, ?_⟩
  have e : cur.toList.take off ++ us ++ cur.toList.drop (off + us.length) = (vs.take off ++ us ++ vs.drop (off + us.length)) ++ rest := by
    rw [k5, List.take_append_of_le_length (by omega), List.drop_append_of_le_length (by omega)]
    simp
  refine h.setRow hb hx _ (vs.take off ++ us ++ vs.drop (off + us.length)) rest ?_ (by simpa using e) ?_ ?_
  · rw [← Array.length_toList]
    have := congrArg List.length e
    simp only [List.length_append, List.length_take, List.length_drop] at this
    simp only [List.length_append, List.length_take, List.length_drop, Array.length_toList] at this ⊢
    omega
  · unfold spliceL
    rw [hl1]
    exact ((k6.take off).append hr).append (k6.drop _)
  · intro u hu
    simp only [List.mem_append] at hu
    rcases hu with (hu | hu) | hu
    · exact k7 u (List.mem_of_mem_take hu)
    · exact h1 u hu
    · exact k7 u (List.mem_of_mem_drop hu)

theorem storeA_fits (h : Sim g σ w) {t : TypeId} {p x : AV} {v u : Value} (hp : Rep g p v) (hx : Rep g x u) : OpR.Fits C g σ (storeA C.P t p x σ) ((do Instr.storeAt t v u; pure Next.skip : Sem Next).run C.P w) := by
  unfold storeA
  split
  · rename_i bb sz b off hv
    split
    · rename_i l hb
      rintro ⟨h1, h2, h3⟩
      obtain ⟨i, d, hi, hd, _, hsz⟩ := varT_spec hv
      obtain ⟨hc1, hc2⟩ := cells_rep hx h1
      simp only [Rep] at hp
      obtain ⟨y, hy, rfl⟩ := hp
      obtain ⟨w', hrun, hs⟩ := storeCells_box (C := C) h hb hy hc1 hc2 (by rw [h2]; exact h3)
      have hlen : u.cells.size = sz := by rw [← Array.length_toList, hc1.length]; exact h2
      simp only [Instr.storeAt, Instr.sureAddr, storeVar, Sem.run_bind, Sem.run_pure, Result.andThen_ok, run_sizeOf' hi, hsz, hlen, ne_eq, not_true_eq_false, if_false, Sem.run_ite, hrun]
      exact ⟨undef, w', g, .inr ⟨rfl, rfl⟩, Gh.Le.refl g, hs, by simp only [Rep]; exact ⟨[], rfl, by simp [RepL]⟩⟩
    · trivial
  · trivial

/-- A new variable; a strings.Builder's type is kept. -/
def allocL (t : TypeId) : List AV → OpR
  | [.nilptr, .nilslice] => .new .box none (.tbx t [.nilptr, .nilslice])
  | l => .newBox l
def allocA (P : Program) (t : TypeId) : OpR :=
  match zeroC P t with
  | some l => allocL t l
  | none => .bad
theorem zeroC_spec {P : Program} {t : TypeId} {l : List AV} (hz : zeroC P t = some l) : ∃ i z, P.info? t = some i ∧ i.zero = some z ∧ z.cells.toList.mapM ofScalar = some l := by
  unfold zeroC at hz
  cases hi : P.info? t with
  | none => simp [hi] at hz
  | some i =>
    cases hzz : i.zero with
    | none => simp [hi, hzz] at hz
    | some z => simp [hi, hzz] at hz; exact ⟨i, z, rfl, hzz, hz⟩
theorem run_zeroValue' {P : Program} {t : TypeId} {i : TypeInfo} {z : Value} (hi : P.info? t = some i) (hz : i.zero = some z) (w : World) : (zeroValue t).run P w = .ok z w := by
  simp [zeroValue, typeInfo, hi, hz]
theorem newBox_fits (h : Sim g σ w) (e : TypeId) {l : List AV} {cur : Array Value} (hl : RepL g l cur.toList) (h1 : ∀ u ∈ cur.toList, u.oneCell' = true) :
    OpR.Fits C g σ (.newBox l) (.ok (.value (.pointer (some ⟨w.heap.size, 0, none⟩))) (w.alloc (.cells cur e))) := by
  obtain ⟨b, g', hb, hle, hx, hs⟩ := h.newBox e cur cur.toList [] l (by simp) hl h1
  exact ⟨_, _, g', b, rfl, hb, hle, hs, by simp only [NV.at, Rep]; exact ⟨_, hx, rfl⟩⟩
theorem allocA_fits (h : Sim g σ w) {t : TypeId} : OpR.Fits C g σ (allocA C.P t) ((do let x ← Instr.alloc t true (.tuple #[]); pure (Next.value x) : Sem Next).run C.P w) := by
  unfold allocA
  split
  · rename_i l hz
    obtain ⟨i, z, hi, hzz, hm⟩ := zeroC_spec hz
    obtain ⟨h1, h2⟩ := mapM_ofScalar_rep (g := g) hm
    simp only [Instr.alloc, newVar, newRow, Sem.run_bind, Sem.run_pure, Result.andThen_ok, run_zeroValue' hi hzz, run_newObj]
    unfold allocL
    split
    · have hlen := h1.length
      obtain ⟨b, g', hb, hle, hx, hs⟩ := h.newThing (.cells z.cells t) t z.cells.size (.tbx t [.nilptr, .nilslice]) fun g' hle hi hm => ⟨rfl, by simpa using hlen, z.cells, z.cells.toList, [], heap_alloc_new w _, rfl, by simp, h1.mono hle, h2, hi⟩
      exact ⟨_, _, g', b, rfl, hb, hle, hs, by simp only [NV.at, Rep]; exact ⟨_, hx, rfl⟩⟩
    · exact newBox_fits h t h1 h2
  · trivial
def boxA (v : AV) : OpR := .cond (v.lies = true) (.newBox (cellsA v))
theorem boxA_fits (h : Sim g σ w) {t : TypeId} {x : AV} {u : Value} (hx : Rep g x u) : OpR.Fits C g σ (boxA x) ((do let y ← Instr.box t u; pure (Next.value y) : Sem Next).run C.P w) := by
  intro hl
  obtain ⟨h1, h2⟩ := cells_rep hx hl
  simp only [Instr.box, newVar, newRow, Sem.run_bind, Sem.run_pure, Result.andThen_ok, run_newObj]
  exact newBox_fits h t h1 h2

def nilCheckA (x : AV) : OpR :=
  match x with
  | .box _ _ | .eptr _ | .func (.func _) _ _ => .val x
  | _ => .bad
def fieldAddrA (P : Program) (s : TypeId) (p : AV) (f : Nat) : OpR :=
  match fieldT P s f, p with
  | some o, .box b off => .val (.box b (off + o))
  | some o, .eptr l => .val (.eptr (l.drop o))
  | _, _ => .bad
theorem fieldA_spec {P : Program} {s : TypeId} {f o : Nat} (h : fieldT P s f = some o) : ∃ fs x, P.underlying s = some (.struct fs) ∧ fs[f]? = some x ∧ P.cellsOf x.type ≠ 0 ∧ x.offset = o := by
  unfold fieldT at h
  split at h
  · rename_i fs hu
    split at h
    · rename_i x hx
      split at h
      · rename_i hc; cases h; exact ⟨fs, x, hu, hx, hc, rfl⟩
      · cases h
    · cases h
  · cases h
theorem immAt_drop {blk off n : Nat} {vs : List Value} (h : ImmAt g blk off vs) : ImmAt g blk (off + n) (vs.drop n) := fun i u hu => by
  rw [List.getElem?_drop] at hu
  have := h (n + i) u hu
  rwa [Nat.add_assoc]
theorem fieldAddrA_fits (h : Sim g σ w) {s f : Nat} {p : AV} {v : Value} (hp : Rep g p v) : OpR.Fits C g σ (fieldAddrA C.P s p f) ((do let x ← Instr.fieldAt s v f; pure (Next.value x) : Sem Next).run C.P w) := by
  have hadd : ∀ blk off j, (⟨blk, off, none⟩ : Addr).add j = ⟨blk, off + j, none⟩ := fun blk off j => by unfold Addr.add; split <;> simp_all
  have key : ∀ (o : Nat) (blk off : Nat), fieldT C.P s f = some o → v = .pointer (some ⟨blk, off, none⟩) →
      ((do let x ← Instr.fieldAt s v f; pure (Next.value x) : Sem Next).run C.P w) = .ok (.value (.pointer (some ⟨blk, off + o, none⟩))) w := fun o blk off ho hv => by
    obtain ⟨fs, x, hu, hx, hc, rfl⟩ := fieldA_spec ho
    subst hv
    obtain ⟨i, hi, hic⟩ : ∃ i, C.P.info? x.type = some i ∧ i.size = C.P.cellsOf x.type := by
      cases hi : C.P.info? x.type with
      | none => simp [Program.cellsOf, hi] at hc
      | some i => exact ⟨i, rfl, by simp [Program.cellsOf, hi]⟩
    simp only [Instr.fieldAt, Sem.run_bind, Sem.run_pure, Result.andThen_ok, run_underlying hu, hx, Instr.sureAddr, fieldPlace, run_sizeOf' hi, hic, if_neg hc, Sem.run_ite, hadd]
  unfold fieldAddrA
  split
  · rename_i o b off ho
    simp only [Rep] at hp
    obtain ⟨x, hx, hv⟩ := hp
    rw [key o x.blk off ho hv]
    exact fits_val h (by simp only [Rep]; exact ⟨x, hx, rfl⟩)
  · rename_i o l ho
    simp only [Rep] at hp
    obtain ⟨blk, off, vs, hv, hi, hr⟩ := hp
    rw [key o blk off ho hv]
    exact fits_val h (by simp only [Rep]; exact ⟨blk, off + o, vs.drop o, rfl, immAt_drop hi, hr.drop o⟩)
  · trivial

theorem sliceT_spec {P : Program} {t e : TypeId} {sz : Nat} (h : sliceT P t = some (e, sz)) :
    ∃ i z, P.underlying t = some (.slice e) ∧ P.info? e = some i ∧ i.zero = some z ∧ z.cells.size = sz ∧ i.size = sz ∧ 0 < sz ∧ i.bytes ≤ 32768 ∧ (∀ u ∈ z.cells.toList, u.oneCell' = true) := by
  unfold sliceT at h
  split at h
  · rename_i e' hu
    split at h
    · rename_i i hi
      split at h
      · rename_i z hz
        split at h
        · rename_i hc
          simp only [Option.some.injEq, Prod.mk.injEq] at h
          obtain ⟨rfl, rfl⟩ := h
          refine ⟨i, z, hu, hi, hz, hc.1, rfl, hc.2.1, hc.2.2.1, fun u hu => ?_⟩
          have := hc.2.2.2
          rw [Array.all_eq_true_iff_forall_mem] at this
          exact this u (by simpa using hu)
        · cases h
      · cases h
    · cases h
  · cases h

/-- An array's type: how many elements, of how many cells. -/
def arrT (P : Program) (t : TypeId) : Option (Nat × TypeId × Nat) :=
  match P.underlying t with
  | some (.array n e) => match P.info? e with
    | some i => some (n, e, i.size)
    | none => none
  | _ => none
theorem arrT_spec {P : Program} {t e : TypeId} {n sz : Nat} (h : arrT P t = some (n, e, sz)) : ∃ i, P.underlying t = some (.array n e) ∧ P.info? e = some i ∧ i.size = sz := by
  unfold arrT at h
  split at h
  · rename_i n' e' hu
    split at h
    · rename_i i hi
      simp only [Option.some.injEq, Prod.mk.injEq] at h
      obtain ⟨rfl, rfl, rfl⟩ := h
      exact ⟨i, hu, hi, rfl⟩
    · cases h
  · cases h
def arrIxA (P : Program) (t : TypeId) (x i : AV) : OpR :=
  match arrT P t, x, i with
  | some (n, _, sz), .eptr l, .int _ j => .cond (0 ≤ j ∧ j < n) (.val (.eptr (l.drop (j.toNat * sz))))
  | some (n, _, sz), .box b off, .int _ j => .cond (0 ≤ j ∧ j < n) (.val (.box b (off + j.toNat * sz)))
  | _, _, _ => .bad
def indexAddrA (P : Program) (t : TypeId) (x i : AV) : OpR :=
  match sliceT P t, x, i with
  | none, x, i => arrIxA P t x i
  | some (_, sz), .vec n _ l, .int _ j => .cond (0 ≤ j ∧ j < n) (.val (.eptr (l.drop (j.toNat * sz))))
  | some (_, sz), .ms b off n esz _, .int _ j => .cond (0 ≤ j ∧ j < n ∧ esz = sz) (.val (.box b (off + j.toNat * sz)))
  | _, _, _ => .bad
theorem indexAddrA_fits (h : Sim g σ w) {t : TypeId} {x y : AV} {v u : Value} (hx : Rep g x v) (hy : Rep g y u) : OpR.Fits C g σ (indexAddrA C.P t x y) ((do let x ← Instr.indexAt t v u; pure (Next.value x) : Sem Next).run C.P w) := by
  have hadd : ∀ blk off j, (⟨blk, off, none⟩ : Addr).add j = ⟨blk, off + j, none⟩ := fun blk off j => by unfold Addr.add; split <;> simp_all
  have key : ∀ (e : TypeId) (sz : Nat) (blk off n c : Nat) (k : IntKind) (j : Int), sliceT C.P t = some (e, sz) → v = .slice (some ⟨blk, off, none⟩) n c → u = .int k j → 0 ≤ j → j < n →
      ((do let x ← Instr.indexAt t v u; pure (Next.value x) : Sem Next).run C.P w) = .ok (.value (.pointer (some ⟨blk, off + j.toNat * sz, none⟩))) w := fun e sz blk off n c k j ho hv hu h0 h1 => by
    obtain ⟨i, z, hu', hi, hz, _, hsz, _⟩ := sliceT_spec ho
    subst hv hu
    simp only [Instr.indexAt, asIntOf, Sem.run_bind, Sem.run_pure, Result.andThen_ok, run_underlying hu', h0, h1, and_self, if_true, Sem.run_ite, run_sizeOf' hi, hsz, hadd]
  unfold indexAddrA
  split
  · unfold arrIxA
    split
    · rename_i n e sz l k j ha
      rintro ⟨h0, h1⟩
      obtain ⟨i, hu', hi, hsz⟩ := arrT_spec ha
      simp only [Rep] at hx hy
      obtain ⟨blk, off, vs, rfl, hi', hr⟩ := hx
      subst hy
      simp only [Instr.indexAt, asIntOf, Sem.run_bind, Sem.run_pure, Result.andThen_ok, run_underlying hu', Instr.sureAddr, h0, h1, and_self, if_true, Sem.run_ite, run_sizeOf' hi, hsz, hadd]
      exact fits_val h (by simp only [Rep]; exact ⟨blk, _, _, rfl, immAt_drop hi', hr.drop _⟩)
    · rename_i n e sz b off k j ha
      rintro ⟨h0, h1⟩
      obtain ⟨i, hu', hi, hsz⟩ := arrT_spec ha
      simp only [Rep] at hx hy
      obtain ⟨x, hb, rfl⟩ := hx
      subst hy
      simp only [Instr.indexAt, asIntOf, Sem.run_bind, Sem.run_pure, Result.andThen_ok, run_underlying hu', Instr.sureAddr, h0, h1, and_self, if_true, Sem.run_ite, run_sizeOf' hi, hsz, hadd]
      exact fits_val h (by simp only [Rep]; exact ⟨x, hb, rfl⟩)
    · trivial
  · rename_i e sz n cap l k j hs
    rintro ⟨h0, h1⟩
    simp only [Rep] at hx hy
    obtain ⟨blk, off, c, vs, hv, _, _, _, hi, hr⟩ := hx
    rw [key e sz blk off n c k j hs hv hy h0 h1]
    exact fits_val h (by simp only [Rep]; exact ⟨blk, _, _, rfl, immAt_drop hi, hr.drop _⟩)
  · rename_i e sz b off n esz e' k j hs
    rintro ⟨h0, h1, rfl⟩
    simp only [Rep] at hx hy
    obtain ⟨x, c, hb, hv, _⟩ := hx
    rw [key e esz x.blk off n c k j hs hv hy h0 h1]
    exact fits_val h (by simp only [Rep]; exact ⟨x, hb, rfl⟩)
  · trivial

def isStrT (P : Program) (t : TypeId) : Bool := match P.underlying t with | some .string => true | _ => false
def indexA (P : Program) (t : TypeId) (x i : AV) : OpR :=
  match x, i with
  | .str s, .int _ j => if isStrT P t = true then .cond (0 ≤ j ∧ j < s.length) (.val (.int .u8 (s.getD j.toNat 0).toNat)) else .bad
  | .agg l, .int _ j => match arrT P t with
    | some (n, e, sz) => match varT P e with
      | some (false, _) => .cond (0 ≤ j ∧ j < n) (headR (l.drop (j.toNat * sz)))
      | some (true, k) => .cond (0 ≤ j ∧ j < n ∧ k = sz ∧ j.toNat * sz + sz ≤ l.length) (.val (.agg ((l.drop (j.toNat * sz)).take sz)))
      | none => .bad
    | none => .bad
  | _, _ => .bad
theorem isStrT_spec {P : Program} {t : TypeId} (h : isStrT P t = true) : P.underlying t = some .string := by
  unfold isStrT at h
  split at h
  · assumption
  · cases h
theorem indexA_fits (h : Sim g σ w) {t : TypeId} {x y : AV} {v u : Value} (hx : Rep g x v) (hy : Rep g y u) : OpR.Fits C g σ (indexA C.P t x y) ((do let x ← Instr.index t v u; pure (Next.value x) : Sem Next).run C.P w) := by
  unfold indexA
  split
  · rename_i s k j
    split
    · rename_i ht
      rintro ⟨h0, h1⟩
      simp only [Rep] at hx hy
      subst hx hy
      have hj : j.toNat < s.length := by omega
      have e : (ByteArray.mk s.toArray)[j.toNat]? = some (s.getD j.toNat 0) := by
        have hsz : (ByteArray.mk s.toArray).size = s.length := by simp [ByteArray.size]
        rw [getElem?_pos _ _ (by rw [hsz]; exact hj)]
        simp [List.getD_eq_getElem?_getD, List.getElem?_eq_getElem hj]
        rfl
      simp only [Instr.index, asIntOf, Sem.run_bind, Sem.run_pure, Result.andThen_ok, run_underlying (isStrT_spec ht), h0, if_true, e]
      exact fits_val h (by simp only [Rep])
    · trivial
  · rename_i l k j
    split
    · rename_i n e sz ha
      obtain ⟨i, hu', hi, hsz⟩ := arrT_spec ha
      simp only [Rep] at hx hy
      subst hy
      obtain ⟨vs, rfl, h1c, hr⟩ := hx
      split
      · rename_i sz' hv
        obtain ⟨i', d, hi', hd, hb, _⟩ := varT_spec hv
        rintro ⟨h0, h1⟩
        cases hl : l.drop (j.toNat * sz) with
        | nil => trivial
        | cons z zs =>
          have hz : l[j.toNat * sz]? = some z := by
            have := congrArg (fun l => l[0]?) hl
            simpa using this
          obtain ⟨u, hu2, hzu⟩ := hr.get hz
          have e1 : vs.toArray[j.toNat * sz]? = some u := by simpa using hu2
          simp only [Instr.index, asIntOf, Sem.run_bind, Sem.run_pure, Result.andThen_ok, run_underlying hu', h0, h1, and_self, if_true, Sem.run_ite, run_sizeOf' hi, hsz, part, run_isAgg hd, hb, Bool.false_eq_true, if_false, e1]
          exact fits_val h hzu
      · rename_i k' hv
        obtain ⟨i', d, hi', hd, hb, hk⟩ := varT_spec hv
        rw [hi] at hi'; cases hi'
        rintro ⟨h0, h1, rfl, h2⟩
        simp only [Instr.index, asIntOf, Sem.run_bind, Sem.run_pure, Result.andThen_ok, run_underlying hu', h0, h1, and_self, if_true, Sem.run_ite, run_sizeOf' hi, hsz, part, run_isAgg hd, hb]
        refine fits_val h ?_
        simp only [Rep]
        refine ⟨(vs.drop (j.toNat * k')).take k', ?_, fun u hu => h1c u (List.mem_of_mem_drop (List.mem_of_mem_take hu)), (hr.drop _).take _⟩
        congr 1
        apply Array.ext'
        simp [List.extract_eq_take_drop]
      · trivial
    · trivial
  · trivial
end
end Go.Rip

set_option linter.unusedSimpArgs false
set_option linter.unusedVariables false
set_option linter.loopingSimpArgs false
namespace Go.Rip
open Go.RowKit
section
variable {C : Cfg} {g : Gh} {σ : St} {w : World}

/-! ### Two operands -/
theorem run_eqFields {P : Program} {d : Nat} : ∀ (fs : List Field) (i : Nat) (ks : List FK) (xs ys : List AV) (us vs : Array Value) (r : Bool), fieldsK P fs i = some ks → eqK ks xs ys = some r →
    RepL g xs (us.toList.drop i) → RepL g ys (vs.toList.drop i) → (Op.eqFields (d + 1) us vs fs).run P w = .ok r w
  | [], i, ks, xs, ys, us, vs, r, hk, he, _, _ => by
    simp only [fieldsK, Option.some.injEq] at hk
    subst hk
    cases xs <;> cases ys <;> simp only [eqK, reduceCtorEq, Option.some.injEq] at he
    subst he
    simp [Op.eqFields]
  | f :: fs, i, ks, xs, ys, us, vs, r, hk, he, hx, hy => by
    simp only [fieldsK] at hk
    split at hk
    · rename_i k ks' hf hfs
      simp only [Option.some.injEq] at hk
      subst hk
      unfold fieldK at hf
      split at hf
      · rename_i hc
        obtain ⟨ho, hn⟩ := hc
        have hpart : ∀ (us : Array Value) (u : Value), us[i]? = some u → ∀ dd, P.underlying f.type = some dd → aggD dd = false → (part f.type us f.offset).run P w = .ok u w := fun us u hu dd hd ha => by
          simp only [part, Sem.run_bind, run_isAgg hd, Result.andThen_ok, ha, Bool.false_eq_true, if_false, ho, hu, Sem.run_pure, Sem.run_ite]
        have hnext : ∀ {xs : List AV} {x : AV} {us : Array Value}, RepL g (x :: xs) (us.toList.drop i) → ∃ u, us[i]? = some u ∧ Rep g x u ∧ RepL g xs (us.toList.drop (i + 1)) := fun {xs x us} h => by
          simp only [RepL] at h
          obtain ⟨u, rest, e, h1, h2⟩ := h
          refine ⟨u, ?_, h1, ?_⟩
          · have := congrArg (fun l => l[0]?) e
            simpa using this
          · have := congrArg (List.drop 1) e
            rw [List.drop_drop] at this
            rw [this]; simpa using h2
        have hgo : ∀ (u v : Value) (q r' : Bool) (dd : TypeDesc), us[i]? = some u → vs[i]? = some v → P.underlying f.type = some dd → aggD dd = false → (Op.equalIn (d + 1) f.type u v).run P w = .ok q w →
            (Op.eqFields (d + 1) us vs fs).run P w = .ok r' w → (Op.eqFields (d + 1) us vs (f :: fs)).run P w = .ok (q && r') w := fun u v q r' dd hu hv hd ha heq hrec => by
          simp only [Op.eqFields, if_pos hn, Sem.run_bind, hpart us u hu dd hd ha, hpart vs v hv dd hd ha, Result.andThen_ok, heq, Sem.run_ite, Sem.run_pure, hrec]
          cases q <;> simp
        split at hf
        · rename_i hd
          cases hf
          cases xs with
          | nil => simp [eqK] at he
          | cons x xs =>
            cases ys with
            | nil => cases x <;> simp [eqK] at he
            | cons y ys =>
              cases x <;> cases y <;> simp only [eqK, reduceCtorEq] at he
              cases hr : eqK ks' xs ys with
              | none => simp [hr] at he
              | some r' =>
                simp [hr] at he
                subst he
                obtain ⟨u, hu, hxu, hx'⟩ := hnext hx
                obtain ⟨v, hv, hyv, hy'⟩ := hnext hy
                simp only [Rep] at hxu hyv
                subst hxu hyv
                have := hgo _ _ _ r' _ hu hv hd rfl (run_equalIn_bool' w d f.type _ _ hd) (run_eqFields fs (i + 1) ks' xs ys us vs r' hfs hr hx' hy')
                rw [this]
        · rename_i kk hd
          cases hf
          cases xs with
          | nil => simp [eqK] at he
          | cons x xs =>
            cases ys with
            | nil => cases x <;> simp [eqK] at he
            | cons y ys =>
              cases x <;> cases y <;> simp only [eqK, reduceCtorEq] at he
              split at he
              · rename_i e; subst e
                cases hr : eqK ks' xs ys with
                | none => simp [hr] at he
                | some r' =>
                  simp [hr] at he
                  subst he
                  obtain ⟨u, hu, hxu, hx'⟩ := hnext hx
                  obtain ⟨v, hv, hyv, hy'⟩ := hnext hy
                  simp only [Rep] at hxu hyv
                  subst hxu hyv
                  have := hgo _ _ _ r' _ hu hv hd rfl (run_equalIn_int w d f.type _ _ _ _ hd) (run_eqFields fs (i + 1) ks' xs ys us vs r' hfs hr hx' hy')
                  rw [this]
              · cases he
        · rename_i hd
          cases hf
          cases xs with
          | nil => simp [eqK] at he
          | cons x xs =>
            cases ys with
            | nil => cases x <;> simp [eqK] at he
            | cons y ys =>
              cases x <;> cases y <;> simp only [eqK, reduceCtorEq] at he
              cases hr : eqK ks' xs ys with
              | none => simp [hr] at he
              | some r' =>
                simp [hr] at he
                subst he
                obtain ⟨u, hu, hxu, hx'⟩ := hnext hx
                obtain ⟨v, hv, hyv, hy'⟩ := hnext hy
                simp only [Rep] at hxu hyv
                subst hxu hyv
                have := hgo _ _ _ r' _ hu hv hd rfl (run_equalIn_string w d f.type _ _ hd) (run_eqFields fs (i + 1) ks' xs ys us vs r' hfs hr hx' hy')
                rw [this]
                simp [ByteArray.toList_eq]
        · cases hf
      · cases hf
    · cases hk

theorem run_eq_agg {P : Program} {t : TypeId} {a b : List AV} {us vs : List Value} {r : Bool} (h : eqA P t a b = some r) (ha : RepL g a us) (hb : RepL g b vs) :
    (Op.equalIn 10000 t (.agg us.toArray) (.agg vs.toArray)).run P w = .ok r w ∧ P.eqGuardType P.depth t = false := by
  unfold eqA at h
  split at h
  · rename_i ks hks
    unfold flatT at hks
    split at hks
    · rename_i fs hu
      split at hks
      · rename_i hc
        have hfo : P.fieldsOf t = fs := by simp [Program.fieldsOf, hu]
        refine ⟨?_, hc.2⟩
        rw [run_equalIn_struct w 9999 t _ _ (by rw [hfo]; exact hu) hc.1, hfo]
        exact run_eqFields (d := 9998) fs.toList 0 ks a b _ _ r hks h (by simpa using ha) (by simpa using hb)
      · cases hks
    · cases hks
  · cases h

theorem run_equalIn_iface {P : Program} (w : World) (d : Nat) (t : TypeId) (ms : Array (String × TypeId)) (h : P.underlying t = some (.interface ms)) (a : TypeId) (b : Value) : (Op.equalIn (d + 1) t (.iface a b) .nilIface).run P w = .ok false w := by
  simp [Op.equalIn, run_underlying h]
theorem run_equalIn_ptr {P : Program} (w : World) (d : Nat) (t e : TypeId) (h : P.underlying t = some (.pointer e)) (a : Option Addr) : (Op.equalIn (d + 1) t (.pointer a) (.pointer none)).run P w = .ok a.isNone w := by
  cases a <;> simp [Op.equalIn, run_underlying h]
theorem run_equalIn_nilIface {P : Program} (w : World) (d : Nat) (t : TypeId) (ms : Array (String × TypeId)) (h : P.underlying t = some (.interface ms)) : (Op.equalIn (d + 1) t .nilIface .nilIface).run P w = .ok true w := by
  simp [Op.equalIn, run_underlying h]
theorem binA_fits (h : Sim g σ w) {op : BinOp} {t : TypeId} {x y : AV} {u v : Value} (X Y : Operand) (hx : Rep g x u) (hy : Rep g y v) :
    OpR.Fits C g σ (binA C.P op t x y) ((do let r ← (do eqGuard op t X Y u v; binOp op t u v : Sem Value); pure (Next.value r) : Sem Next).run C.P w) := by
  have hI : ∀ (k : IntKind) (n : Int), OpR.Fits C g σ (arithA k n) (.ok (.value (.int k (k.wrap n))) w) := fun k n => by
    unfold arithA
    split
    · intro hi
      rw [wrap_I64 hi]
      exact fits_val h (by simp only [Rep])
    · exact fits_val h (by simp only [Rep])
  unfold binA
  split
  all_goals first
    | trivial
    | skip
  all_goals simp only [Rep] at hx hy
  all_goals first
    | (subst hx hy
       split
       · rename_i e; subst e
         first
           | (simp only [eqGuard, binOp, ne_eq, not_true_eq_false, if_false, Op.intArith, Op.intCmp, Op.intBits, Sem.run_bind, Sem.run_pure, Result.andThen_ok, Bool.not_eq_true', Bool.true_eq_false, Bool.not_true, Bool.not_false, Bool.false_eq_true, if_true, Sem.run_ite]
              first
                | exact hI _ _
                | exact fits_val h (by simp only [Rep]))
           | (intro hb
              simp only [eqGuard, binOp, ne_eq, not_true_eq_false, if_false, Op.intDiv, if_neg hb, Sem.run_bind, Sem.run_pure, Result.andThen_ok, Bool.not_eq_true', Bool.true_eq_false, Bool.not_true, Bool.not_false, Bool.false_eq_true, if_true, Sem.run_ite]
              first
                | exact hI _ _
                | exact fits_val h (by simp only [Rep]))
       · trivial)
    | skip
  · subst hx hy
    simp only [eqGuard, binOp, Op.stringOp, Sem.run_bind, Sem.run_pure, Result.andThen_ok, Bool.not_true, Bool.false_eq_true, if_false, Sem.run_ite, ByteArray.toList_eq, List.toList_toArray]
    exact fits_val h (by simp only [Rep])
  · subst hx hy
    simp only [eqGuard, binOp, Op.stringOp, Sem.run_bind, Sem.run_pure, Result.andThen_ok, Bool.not_true, Bool.false_eq_true, if_false, Sem.run_ite, ByteArray.toList_eq, List.toList_toArray]
    exact fits_val h (by simp only [Rep]; rfl)
  · subst hx hy
    rename_i a b
    intro hle
    have h1 : ¬ (((ByteArray.mk a.toArray).size + (ByteArray.mk b.toArray).size : Nat) : Int) > IntKind.i64.max := by
      have e1 : (ByteArray.mk a.toArray).size = a.length := by simp [ByteArray.size]
      have e2 : (ByteArray.mk b.toArray).size = b.length := by simp [ByteArray.size]
      have e3 : IntKind.i64.max = 9223372036854775807 := by simp [IntKind.max, IntKind.signed, IntKind.bits]
      rw [e1, e2, e3]; omega
    have h2 : (ByteArray.mk a.toArray) ++ (ByteArray.mk b.toArray) = ByteArray.mk (a ++ b).toArray := by
      apply ByteArray.ext
      simp
    simp only [eqGuard, binOp, Op.stringOp, Sem.run_bind, Sem.run_pure, Result.andThen_ok, if_neg h1, Sem.run_ite, Bool.not_true, Bool.not_false, Bool.false_eq_true, if_true, if_false, h2]
    exact fits_val h (by simp only [Rep])
  · subst hx hy
    split
    · rename_i ht
      have hu : C.P.underlying t = some .bool := by unfold isBoolT at ht; split at ht <;> simp_all
      have hr := run_equalIn_bool' (P := C.P) w 9999 t
      simp only [eqGuard, binOp, Op.equal, Op.maxDepth, Sem.run_bind, Sem.run_pure, Result.andThen_ok, hr _ _ hu, Bool.not_true, Bool.false_eq_true, if_false, Sem.run_ite]
      exact fits_val h (by simp only [Rep])
    · trivial
  · subst hx hy
    split
    · rename_i ht
      have hu : C.P.underlying t = some .bool := by unfold isBoolT at ht; split at ht <;> simp_all
      have hr := run_equalIn_bool' (P := C.P) w 9999 t
      simp only [eqGuard, binOp, Op.equal, Op.maxDepth, Sem.run_bind, Sem.run_pure, Result.andThen_ok, hr _ _ hu, Bool.not_true, Bool.false_eq_true, if_false, Sem.run_ite]
      exact fits_val h (by simp only [Rep]; rfl)
    · trivial
  · rename_i a b
    obtain ⟨us, rfl, _, ha⟩ := hx
    obtain ⟨vs, rfl, _, hb⟩ := hy
    cases he : eqA C.P t a b with
    | none => trivial
    | some r =>
      obtain ⟨h1, h2⟩ := run_eq_agg (w := w) he ha hb
      simp only [valO, Sem.run_bind, run_eqGuard_agg w _ _ _ _ _ _ h2, Result.andThen_ok, run_eql_struct, h1, Sem.run_pure]
      exact fits_val h (by simp only [Rep])
  · rename_i a b
    obtain ⟨us, rfl, _, ha⟩ := hx
    obtain ⟨vs, rfl, _, hb⟩ := hy
    cases he : eqA C.P t a b with
    | none => trivial
    | some r =>
      obtain ⟨h1, h2⟩ := run_eq_agg (w := w) he ha hb
      simp only [valO, Sem.run_bind, run_eqGuard_agg w _ _ _ _ _ _ h2, Result.andThen_ok, run_neq_struct, h1, Sem.run_pure]
      exact fits_val h (by simp only [Rep])
  · obtain ⟨u', rfl, _⟩ := hx
    subst hy
    split
    · rename_i ht
      obtain ⟨ms, hu⟩ : ∃ ms, C.P.underlying t = some (.interface ms) := by unfold isIfaceT at ht; split at ht <;> simp_all
      have hr := run_equalIn_iface (P := C.P) w 9999 t ms hu
      simp only [eqGuard, binOp, Op.equal, Op.maxDepth, hr, Sem.run_bind, Sem.run_pure, Result.andThen_ok, Bool.not_true, Bool.false_eq_true, if_false, Sem.run_ite]
      exact fits_val h (by simp only [Rep])
    · trivial
  · obtain ⟨u', rfl, _⟩ := hx
    subst hy
    split
    · rename_i ht
      obtain ⟨ms, hu⟩ : ∃ ms, C.P.underlying t = some (.interface ms) := by unfold isIfaceT at ht; split at ht <;> simp_all
      have hr := run_equalIn_iface (P := C.P) w 9999 t ms hu
      simp only [eqGuard, binOp, Op.equal, Op.maxDepth, hr, Sem.run_bind, Sem.run_pure, Result.andThen_ok, Bool.not_true, Bool.not_false, Bool.false_eq_true, if_false, Sem.run_ite]
      exact fits_val h (by simp only [Rep])
    · trivial
  · subst hx hy
    split
    · rename_i ht
      obtain ⟨ms, hu⟩ : ∃ ms, C.P.underlying t = some (.pointer ms) := by unfold isPtrT at ht; split at ht <;> simp_all
      have hr := run_equalIn_ptr (P := C.P) w 9999 t ms hu
      simp only [eqGuard, binOp, Op.equal, Op.maxDepth, hr, Sem.run_bind, Sem.run_pure, Result.andThen_ok, Option.isNone_none, Bool.not_true, Bool.not_false, Bool.false_eq_true, if_false, Sem.run_ite]
      exact fits_val h (by simp [Rep])
    · trivial
  · obtain ⟨x, _, rfl⟩ := hx
    subst hy
    split
    · rename_i ht
      obtain ⟨ms, hu⟩ : ∃ ms, C.P.underlying t = some (.pointer ms) := by unfold isPtrT at ht; split at ht <;> simp_all
      have hr := run_equalIn_ptr (P := C.P) w 9999 t ms hu
      simp only [eqGuard, binOp, Op.equal, Op.maxDepth, hr, Sem.run_bind, Sem.run_pure, Result.andThen_ok, Option.isNone_none, Bool.not_true, Bool.not_false, Bool.false_eq_true, if_false, Sem.run_ite]
      exact fits_val h (by simp [Rep])
    · trivial
  · subst hx hy
    split
    · rename_i ht
      obtain ⟨ms, hu⟩ : ∃ ms, C.P.underlying t = some (.pointer ms) := by unfold isPtrT at ht; split at ht <;> simp_all
      have hr := run_equalIn_ptr (P := C.P) w 9999 t ms hu
      simp only [eqGuard, binOp, Op.equal, Op.maxDepth, hr, Sem.run_bind, Sem.run_pure, Result.andThen_ok, Option.isNone_none, Bool.not_true, Bool.not_false, Bool.false_eq_true, if_false, Sem.run_ite]
      exact fits_val h (by simp [Rep])
    · trivial
  · obtain ⟨x, _, rfl⟩ := hx
    subst hy
    split
    · rename_i ht
      obtain ⟨ms, hu⟩ : ∃ ms, C.P.underlying t = some (.pointer ms) := by unfold isPtrT at ht; split at ht <;> simp_all
      have hr := run_equalIn_ptr (P := C.P) w 9999 t ms hu
      simp only [eqGuard, binOp, Op.equal, Op.maxDepth, hr, Sem.run_bind, Sem.run_pure, Result.andThen_ok, Option.isNone_none, Bool.not_true, Bool.not_false, Bool.false_eq_true, if_false, Sem.run_ite]
      exact fits_val h (by simp [Rep])
    · trivial
  · obtain ⟨_, _, _, rfl, _⟩ := hx
    subst hy
    split
    · rename_i ht
      obtain ⟨ms, hu⟩ : ∃ ms, C.P.underlying t = some (.pointer ms) := by unfold isPtrT at ht; split at ht <;> simp_all
      have hr := run_equalIn_ptr (P := C.P) w 9999 t ms hu
      simp only [eqGuard, binOp, Op.equal, Op.maxDepth, hr, Sem.run_bind, Sem.run_pure, Result.andThen_ok, Option.isNone_none, Bool.not_true, Bool.not_false, Bool.false_eq_true, if_false, Sem.run_ite]
      exact fits_val h (by simp [Rep])
    · trivial
  · obtain ⟨_, _, _, rfl, _⟩ := hx
    subst hy
    split
    · rename_i ht
      obtain ⟨ms, hu⟩ : ∃ ms, C.P.underlying t = some (.pointer ms) := by unfold isPtrT at ht; split at ht <;> simp_all
      have hr := run_equalIn_ptr (P := C.P) w 9999 t ms hu
      simp only [eqGuard, binOp, Op.equal, Op.maxDepth, hr, Sem.run_bind, Sem.run_pure, Result.andThen_ok, Option.isNone_none, Bool.not_true, Bool.not_false, Bool.false_eq_true, if_false, Sem.run_ite]
      exact fits_val h (by simp [Rep])
    · trivial
theorem binL_fits (h : Sim g σ w) {op : BinOp} {t : TypeId} {x y : AV} {u v : Value} (X Y : Operand) (hx : Rep g x u) (hy : Rep g y v) :
    OpR.Fits C g σ (binL C.P op t (isLit X || isLit Y) x y) ((do let r ← (do eqGuard op t X Y u v; binOp op t u v : Sem Value); pure (Next.value r) : Sem Next).run C.P w) := by
  have key : ∀ (op : BinOp), (op = .eql ∨ op = .neq) → isIfaceT C.P t = true → (isLit X || isLit Y) = true → (eqGuard op t X Y .nilIface .nilIface).run C.P w = .ok () w := fun op hop ht hl => by
    obtain ⟨ms, hu⟩ : ∃ ms, C.P.underlying t = some (.interface ms) := by unfold isIfaceT at ht; split at ht <;> simp_all
    rcases hop with rfl | rfl <;> cases X <;> cases Y <;> simp [isLit] at hl <;> simp [eqGuard]
  unfold binL
  split
  · simp only [Rep] at hx hy
    subst hx hy
    split
    · rename_i ht
      obtain ⟨ms, hu⟩ : ∃ ms, C.P.underlying t = some (.interface ms) := by have ht := ht.1; unfold isIfaceT at ht; split at ht <;> simp_all
      have hr := run_equalIn_nilIface (P := C.P) w 9999 t ms hu
      simp only [Sem.run_bind, key _ (.inl rfl) ht.1 ht.2, binOp, Op.equal, Op.maxDepth, hr, Sem.run_pure, Result.andThen_ok, Bool.not_true, Bool.not_false, Bool.false_eq_true, if_false, Sem.run_ite]
      exact fits_val h (by simp [Rep])
    · trivial
  · simp only [Rep] at hx hy
    subst hx hy
    split
    · rename_i ht
      obtain ⟨ms, hu⟩ : ∃ ms, C.P.underlying t = some (.interface ms) := by have ht := ht.1; unfold isIfaceT at ht; split at ht <;> simp_all
      have hr := run_equalIn_nilIface (P := C.P) w 9999 t ms hu
      simp only [Sem.run_bind, key _ (.inr rfl) ht.1 ht.2, binOp, Op.equal, Op.maxDepth, hr, Sem.run_pure, Result.andThen_ok, Bool.not_true, Bool.not_false, Bool.false_eq_true, if_false, Sem.run_ite]
      exact fits_val h (by simp [Rep])
    · trivial
  · exact binA_fits h X Y hx hy
end
end Go.Rip

set_option linter.unusedSimpArgs false
set_option linter.unusedVariables false
set_option linter.loopingSimpArgs false
namespace Go.Rip
open Go.RowKit
section
variable {C : Cfg} {g : Gh} {σ : St} {w : World}

/-! ### append -/
def appT (P : Program) (t u : TypeId) : Option (TypeId × Nat) :=
  match P.underlying u with
  | some (.slice _) => sliceT P t
  | some .string => match sliceT P t with
    | some (e, 1) => some (e, 1)
    | _ => none
  | _ => none
def srcA (σ : St) : AV → Option (Nat × List AV)
  | .vec m _ l => some (m, l)
  | .nilslice => some (0, [])
  | .ms b off m esz _ => match σ.box b with
    | some l => some (m, (l.drop off).take (m * esz))
    | none => none
  | .str s => some (s.length, s.map fun b => .int .u8 b.toNat)
  | _ => none
/-- 'append(s, y...)'; mu: onto nil, make a slice that may be written. -/
def appendA (P : Program) (t u : TypeId) (mu : Bool) (s y : AV) (σ : St) : OpR :=
  match appT P t u, srcA σ y with
  | some (e, sz), some (m, l2) =>
    .cond (l2.length = m * sz) (match s with
    | .nilslice => if m = 0 then .val .nilslice else .cond (m ≤ 4294967296) (if mu then .newMs m sz e none l2 else .newTok m l2 none ⟨m, e, sz⟩)
    | .vec n .full l => if m = 0 then .val s else .cond (l.length = n * sz ∧ n + m ≤ 4294967296) (.newTok (n + m) (l ++ l2) none ⟨n + m, e, sz⟩)
    | .vec n (.own τ) l => .cond (σ.tok τ = some ⟨n, e, sz⟩ ∧ l.length = n * sz ∧ n + m ≤ 4294967296) (.newTok (n + m) (l ++ l2) (some τ) ⟨n + m, e, sz⟩)
    | .ms b off n esz e' => match σ.box b with
      | some l => .cond (off = 0 ∧ esz = sz ∧ e' = e ∧ n * sz ≤ l.length ∧ n + m ≤ 4294967296) (.newMs (n + m) sz e (some b) (l.take (n * sz) ++ l2))
      | none => .bad
    | _ => .bad)
  | _, _ => .bad

theorem appT_spec {P : Program} {t u e : TypeId} {sz : Nat} (h : appT P t u = some (e, sz)) : sliceT P t = some (e, sz) ∧ ∃ d, P.underlying u = some d ∧ ((∃ x, d = .slice x) ∨ d = .string) := by
  unfold appT at h
  split at h
  · rename_i x hx; exact ⟨h, _, hx, .inl ⟨x, rfl⟩⟩
  · rename_i hx
    split at h
    · rename_i e' he
      simp only [Option.some.injEq, Prod.mk.injEq] at h
      obtain ⟨rfl, rfl⟩ := h
      exact ⟨he, _, hx, .inr rfl⟩
    · cases h
  · cases h

/-- What append reads of its second argument. -/
theorem srcA_spec (h : Sim g σ w) {y : AV} {v : Value} (hy : Rep g y v) {m : Nat} {l2 : List AV} (hs : srcA σ y = some (m, l2)) {sz : Nat} (hl : l2.length = m * sz) :
    (∀ W, (Builtin.lenOf v).run C.P W = .ok m W) ∧ ∃ us : List Value, RepL g l2 us ∧ (∀ u ∈ us, u.oneCell' = true) ∧ ∀ W : World, W.heap = w.heap → (Builtin.firstCells sz m v).run C.P W = .ok us.toArray W := by
  have hadd : ∀ blk off j, (⟨blk, off, none⟩ : Addr).add j = ⟨blk, off + j, none⟩ := fun blk off j => by unfold Addr.add; split <;> simp_all
  have hcell : ∀ (W : World) a, W.heap = w.heap → W.cell? a = w.cell? a := fun W a hW => by simp [World.cell?, hW]
  have read : ∀ (blk off c : Nat) (us : List Value), us.length = m * sz → (∀ j u, us[j]? = some u → w.cell? ⟨blk, off + j, none⟩ = some u) → ∀ W : World, W.heap = w.heap →
      (Builtin.firstCells sz m (.slice (some ⟨blk, off, none⟩) m c)).run C.P W = .ok us.toArray W := fun blk off c us hlen hc W hW => by
    exact run_firstCells_some W sz m ⟨blk, off, none⟩ m c us hlen (fun j u hu => by rw [hadd, hcell W _ hW]; exact hc j u hu)
  cases y <;> simp only [srcA, reduceCtorEq, Option.some.injEq, Prod.mk.injEq] at hs
  · rename_i s
    obtain ⟨rfl, rfl⟩ := hs
    simp only [Rep] at hy
    subst hy
    have hsz : (ByteArray.mk s.toArray).size = s.length := by simp [ByteArray.size]
    refine ⟨fun W => by simp [Builtin.lenOf, hsz], s.map (fun b => Value.int .u8 b.toNat), ?_, by simp [Value.oneCell'], fun W _ => ?_⟩
    · refine RepL.of_get (by simp) fun i x u hx hu => ?_
      simp only [List.getElem?_map, Option.map_eq_some_iff] at hx hu
      obtain ⟨b, hb, rfl⟩ := hx
      obtain ⟨b', hb', rfl⟩ := hu
      rw [hb] at hb'; cases hb'
      simp only [Rep]
    · simp only [Builtin.firstCells, Sem.run_pure]
      congr 1
      apply Array.ext'
      simp
  · obtain ⟨rfl, rfl⟩ := hs
    simp only [Rep] at hy
    subst hy
    exact ⟨fun W => by simp [Builtin.lenOf], [], by simp [RepL], by simp, fun W _ => by simp [Builtin.firstCells]⟩
  · rename_i n cap l
    obtain ⟨rfl, rfl⟩ := hs
    simp only [Rep] at hy
    obtain ⟨blk, off, c, vs, rfl, _, _, _, hi, hr⟩ := hy
    exact ⟨fun W => by simp [Builtin.lenOf], vs, hr, fun u hu => by
      obtain ⟨j, hj⟩ := List.getElem?_of_mem hu
      exact (h.imm _ _ _ (hi j u hj)).2, read blk off c vs (by rw [hr.length, hl]) fun j u hu => (h.imm _ _ _ (hi j u hu)).1⟩
  · rename_i b off n esz e'
    split at hs
    · rename_i l hb
      simp only [Option.some.injEq, Prod.mk.injEq] at hs
      obtain ⟨rfl, rfl⟩ := hs
      simp only [Rep] at hy
      obtain ⟨x, c, hx, rfl, _, _, _, _⟩ := hy
      obtain ⟨a, vs, hv, ha, hr, hc⟩ := cellsAt_rep h (p := .box b off) (v := .pointer (some ⟨x.blk, off, none⟩)) (l := l.drop off) (by simp only [Rep]; exact ⟨x, hx, rfl⟩) (by simp [cellsAt, hb])
      cases hv
      refine ⟨fun W => by simp [Builtin.lenOf], vs.take (n * esz), hr.take _, fun u hu => ?_, read x.blk off c _ (by rw [(hr.take _).length, hl]) fun j u hu => ?_⟩
      · obtain ⟨j, hj⟩ := List.getElem?_of_mem hu
        rw [List.getElem?_take] at hj
        split at hj
        · exact (hc j u hj).2
        · cases hj
      · rw [List.getElem?_take] at hu
        split at hu
        · have := (hc j u hu).1; rwa [hadd] at this
        · cases hu
    · cases hs

theorem run_appendRoom {P : Program} {w : World} {t u ty e : TypeId} {i : TypeInfo} {d : TypeDesc} (ht : P.underlying t = some (.slice e)) (hu : P.underlying u = some d) (hd : (∃ x, d = .slice x) ∨ d = .string) (hi : P.info? e = some i)
    {base : Option Addr} {n c m : Nat} {v : Value} {us : List Value} (hm : ∀ W, (Builtin.lenOf v).run P W = .ok m W) (hf : (Builtin.firstCells i.size m v).run P w = .ok us.toArray w) (hroom : n + m ≤ c) :
    (Builtin.append_ #[t, u] ty #[.slice base n c, v]).run P w = match base with
      | some a => ((storeCells (a.add (n * i.size)) us).run P w).andThen fun _ w' => .ok (.slice base (n + m) c) w'
      | none => .ok (.slice base (n + m) c) w := by
  rcases hd with ⟨x, rfl⟩ | rfl <;> cases base <;>
    simp [Builtin.append_, run_underlying ht, run_underlying hu, sizeOf, typeInfo, hi, hm, hroom, hf]

theorem run_appendGrow {P : Program} {w : World} {t u ty e : TypeId} {i : TypeInfo} {z : Value} {d : TypeDesc} (ht : P.underlying t = some (.slice e)) (hu : P.underlying u = some d) (hd : (∃ x, d = .slice x) ∨ d = .string) (hi : P.info? e = some i) (hz : i.zero = some z) (hby : i.bytes ≤ 32768)
    {base : Option Addr} {n c m : Nat} {v : Value} {olds us : List Value} (hm : ∀ W, (Builtin.lenOf v).run P W = .ok m W) (hf : ∀ W : World, W.heap = w.heap → (Builtin.firstCells i.size m v).run P W = .ok us.toArray W)
    (ho : ∀ W : World, W.heap = w.heap → (Builtin.firstCells i.size n (.slice base n c)).run P W = .ok olds.toArray W) (hgrow : c < n + m) (hsm : n + m ≤ 4294967296) :
    (Builtin.append_ #[t, u] ty #[.slice base n c, v]).run P w =
      .ok (.slice (some ⟨w.heap.size, 0, none⟩) (n + m) (grownCap w (n + m) c e))
        (w.drew.alloc (.cells (olds.toArray ++ us.toArray ++ Builtin.zeroCells z.cells (grownCap w (n + m) c e - (n + m))) e)) := by
  have hroom : ¬ (n + m ≤ c) := by omega
  have h63' : ¬ (9223372036854775807 < ((n : Int) + (m : Int))) := by omega
  have hb2 : (n + m) * i.bytes ≤ 140737488355328 := Nat.le_trans (Nat.mul_le_mul hsm hby) (by omega)
  have h48 := growslice_fits (old := c) (need := n + m) (bytes := i.bytes) (by omega) hb2
  have h48' : ¬ (281474976710656 < Builtin.nextslicecap (n + m) c * i.bytes) := by omega
  have hf' := hf w.drew rfl
  have ho' := ho w.drew rfl
  rcases hd with ⟨x, rfl⟩ | rfl <;>
  · simp [Builtin.append_, run_underlying ht, run_underlying hu, sizeOf, typeInfo, zeroValue, hi, hz, hm, hroom, h63', h48', Question.forced, hf', ho', newRow, grownCap]
    congr 2
    apply Array.ext'
    simp [List.append_assoc]

theorem St.delO_le (σ : St) (d : Option Nat) : St.Le (σ.delO d) σ := by
  cases d with
  | none => exact St.Le.refl σ
  | some b => exact St.del_le σ b
theorem fits_newTok {w : World} (h : Sim g σ w) {del : Option Nat} {e : TypeId} {sz n c : Nat} {l : List AV} {vs rest : List Value} (hr : RepL g l vs) (h1 : ∀ u ∈ vs, u.oneCell' = true) (h2 : ∀ u ∈ rest, u.oneCell' = true)
    (hl : l.length = n * sz) (hc : vs.length + rest.length = c * sz) (hn : n ≤ c) (hcm : c ≤ maxLen) :
    OpR.Fits C g σ (.newTok n l del ⟨n, e, sz⟩) (.ok (.value (.slice (some ⟨w.heap.size, 0, none⟩) n c)) (w.alloc (.cells (vs ++ rest).toArray e))) := by
  obtain ⟨τ, g', h3, hle, h4, h5, h6⟩ := (h.weaken (St.delO_le σ del)).newTok e sz n c (vs ++ rest).toArray vs rest (by simp) (by
    intro u hu
    simp only [List.mem_append] at hu
    rcases hu with hu | hu
    · exact h1 u hu
    · exact h2 u hu) (by rw [hr.length, hl]) (by simp [hc]) hn hcm
  refine ⟨_, _, g', τ, rfl, h3, hle, h6, ?_⟩
  simp only [NV.at, Rep]
  exact ⟨w.heap.size, 0, c, vs, rfl, hn, hcm, ⟨rfl, h4⟩, h5, hr.mono hle⟩

theorem fits_newMs {w : World} (h : Sim g σ w) {del : Option Nat} {e : TypeId} {sz n c : Nat} {l : List AV} {vs rest : List Value} (hr : RepL g l vs) (h1 : ∀ u ∈ vs, u.oneCell' = true) (h2 : ∀ u ∈ rest, u.oneCell' = true)
    (hc : vs.length + rest.length = c * sz) (hn : n ≤ c) (hcm : c ≤ maxLen) :
    OpR.Fits C g σ (.newMs n sz e del l) (.ok (.value (.slice (some ⟨w.heap.size, 0, none⟩) n c)) (w.alloc (.cells (vs ++ rest).toArray e))) := by
  obtain ⟨b, g', h3, hle, h4, h6⟩ := (h.weaken (St.delO_le σ del)).newBox e (vs ++ rest).toArray vs rest l (by simp) hr (by
    intro u hu
    simp only [List.mem_append] at hu
    rcases hu with hu | hu
    · exact h1 u hu
    · exact h2 u hu)
  refine ⟨_, _, g', b, rfl, h3, hle, h6, ?_⟩
  simp only [NV.at, Rep]
  exact ⟨_, c, h4, rfl, hn, hcm, by simp [hc], rfl⟩

theorem zeroCells_oneCell {z : Array Value} (hz : ∀ u ∈ z.toList, u.oneCell' = true) (n : Nat) (hp : 0 < z.size) : ∀ u ∈ (Builtin.zeroCells z n).toList, u.oneCell' = true := by
  intro u hu
  simp only [Builtin.zeroCells, Array.toList_map, List.mem_map] at hu
  obtain ⟨i, _, rfl⟩ := hu
  have hlt : i % z.size < z.size := Nat.mod_lt _ hp
  rw [getElem!_pos z _ hlt]
  exact hz _ (by simp)

theorem appendA_fits (h : Sim g σ w) {t u ty : TypeId} {mu : Bool} {s y : AV} {v v2 : Value} (hs : Rep g s v) (hy : Rep g y v2) :
    OpR.Fits C g σ (appendA C.P t u mu s y σ) ((do let r ← Builtin.append_ #[t, u] ty #[v, v2]; pure (Next.value r) : Sem Next).run C.P w) := by
  have hadd : ∀ blk off j, (⟨blk, off, none⟩ : Addr).add j = ⟨blk, off + j, none⟩ := fun blk off j => by unfold Addr.add; split <;> simp_all
  unfold appendA
  split
  · rename_i e sz m l2 hap hsrc
    intro hl2
    obtain ⟨hsl, d, hu, hd⟩ := appT_spec hap
    obtain ⟨i, z, ht, hi, hz, hzs, rfl, hpos, hby, hz1⟩ := sliceT_spec hsl
    obtain ⟨hm, us, hr2, h12, hf⟩ := srcA_spec (C := C) h hy hsrc hl2
    have hus : us.length = m * i.size := by rw [hr2.length, hl2]
    have grow : ∀ (base : Option Addr) (n c : Nat) (olds : List Value), (∀ W : World, W.heap = w.heap → (Builtin.firstCells i.size n (.slice base n c)).run C.P W = .ok olds.toArray W) → olds.length = n * i.size → c < n + m → n + m ≤ 4294967296 →
        ∃ cap rest, n + m ≤ cap ∧ cap ≤ maxLen ∧ (∀ u ∈ rest, u.oneCell' = true) ∧ (olds ++ us).length + rest.length = cap * i.size ∧
        (Builtin.append_ #[t, u] ty #[.slice base n c, v2]).run C.P w = .ok (.slice (some ⟨w.drew.heap.size, 0, none⟩) (n + m) cap) (w.drew.alloc (.cells ((olds ++ us) ++ rest).toArray e)) := fun base n c olds ho hol hlt hsm => by
      have hge := grownCap_ge w (n + m) c e
      have hle := grownCap_le_maxLen w (n + m) c e (by unfold maxLen; omega)
      refine ⟨grownCap w (n + m) c e, (Builtin.zeroCells z.cells (grownCap w (n + m) c e - (n + m))).toList, hge, hle, zeroCells_oneCell hz1 _ (by omega), ?_, ?_⟩
      · rw [List.length_append, hol, hus, Array.length_toList, size_zeroCells, hzs, ← Nat.add_mul, ← Nat.add_mul]
        congr 1; omega
      · rw [run_appendGrow ht hu hd hi hz hby hm hf ho hlt hsm]
        congr 3
        simp
    split
    · simp only [Rep] at hs
      subst hs
      split
      · rename_i h0
        subst h0
        rw [Sem.run_bind, run_appendRoom ht hu hd hi hm (hf w rfl) (by omega)]
        exact fits_val h (by simp only [Rep])
      · rename_i h0
        intro hsm
        obtain ⟨cap, rest, h1, h2, h3, h4, h5⟩ := grow none 0 0 [] (fun W _ => by simp [Builtin.firstCells]) (by simp) (by omega) (by omega)
        rw [Sem.run_bind, h5]
        have hs' := h.grow (grownBy_drew w)
        simp only [Nat.zero_add, List.nil_append] at h1 h4 h5 ⊢
        split
        · exact fits_newMs hs' hr2 h12 h3 h4 h1 h2
        · exact fits_newTok hs' hr2 h12 h3 hl2 h4 h1 h2
    · rename_i n l
      have hs0 := hs
      simp only [Rep] at hs
      obtain ⟨blk, off, c, vs, rfl, hnc, hcm, hcap, himm, hr⟩ := hs
      simp only [CapOk] at hcap
      subst hcap
      split
      · rename_i h0
        subst h0
        rw [Sem.run_bind, run_appendRoom ht hu hd hi hm (hf w rfl) (by omega)]
        have hus0 : us = [] := List.eq_nil_of_length_eq_zero (by simpa using hus)
        subst hus0
        simp only [storeCells, Sem.run_pure, Result.andThen_ok, Nat.add_zero]
        exact fits_val h hs0
      · rename_i h0
        rintro ⟨hl, hsm⟩
        have hvl : vs.length = c * i.size := by rw [hr.length, hl]
        have ho : ∀ W : World, W.heap = w.heap → (Builtin.firstCells i.size c (.slice (some ⟨blk, off, none⟩) c c)).run C.P W = .ok vs.toArray W := fun W hW =>
          run_firstCells_some W i.size c ⟨blk, off, none⟩ c c vs hvl (fun j u hu => by
            rw [hadd]
            have : W.cell? ⟨blk, off + j, none⟩ = w.cell? ⟨blk, off + j, none⟩ := by simp [World.cell?, hW]
            rw [this]; exact (h.imm _ _ _ (himm j u hu)).1)
        obtain ⟨cap, rest, h1, h2, h3, h4, h5⟩ := grow (some ⟨blk, off, none⟩) c c vs ho hvl (by omega) hsm
        rw [Sem.run_bind, h5]
        have hs' := h.grow (grownBy_drew w)
        refine fits_newTok hs' (hr.append hr2) ?_ h3 (by rw [List.length_append, hl, hl2, Nat.add_mul]) h4 h1 h2
        intro u hu
        simp only [List.mem_append] at hu
        rcases hu with hu | hu
        · obtain ⟨j, hj⟩ := List.getElem?_of_mem hu
          exact (h.imm _ _ _ (himm j u hj)).2
        · exact h12 u hu
    · rename_i n τ l
      rintro ⟨htok, hl, hsm⟩
      simp only [Rep] at hs
      obtain ⟨blk, off, c, vs, rfl, hnc, hcm, hcap, himm, hr⟩ := hs
      simp only [CapOk] at hcap
      obtain ⟨rfl, hgt⟩ := hcap
      obtain ⟨blk', c', cur, k1, k2, k3, k4, k5, k6, k7⟩ := h.tok τ _ htok
      rw [hgt] at k1; cases k1
      have hvl : vs.length = n * i.size := by rw [hr.length, hl]
      by_cases hroom : n + m ≤ c
      · have hfit : n * i.size + us.length ≤ cur.size := by
          have e4 : cur.size = c * i.size := k4
          rw [hus, e4, ← Nat.add_mul]; exact Nat.mul_le_mul_right _ hroom
        have hst := run_storeCells_at C.P blk (n * i.size) e us 0 cur w k3 (by simpa using hfit) h12
        simp only [Nat.add_zero] at hst
        rw [Sem.run_bind, run_appendRoom ht hu hd hi hm (hf w rfl) hroom]
        simp only [hadd, Nat.zero_add, hst, Result.andThen_ok]
        obtain ⟨τ', g', t1, hle, t2, t3, t4⟩ := h.tokRow htok hgt cur (cur.toList.take (n * i.size) ++ us ++ cur.toList.drop (n * i.size + us.length)).toArray us m k3 hus hroom (by simp) h12
        refine ⟨_, _, g', τ', rfl, t1, hle, t4, ?_⟩
        simp only [NV.at, Rep]
        refine ⟨blk, 0, c, vs ++ us, rfl, hroom, hcm, ⟨rfl, t2⟩, fun j u hu => ?_, (hr.append hr2).mono hle⟩
        by_cases hj : j < vs.length
        · rw [List.getElem?_append_left hj] at hu
          exact (himm.mono hle) j u hu
        · rw [List.getElem?_append_right (by omega)] at hu
          have e0 : n * i.size + (j - vs.length) = 0 + j := by omega
          have t3' : g'.imm blk (n * i.size + (j - vs.length)) = some u := t3 _ u hu
          rw [e0] at t3'
          exact t3'
      · have ho : ∀ W : World, W.heap = w.heap → (Builtin.firstCells i.size n (.slice (some ⟨blk, 0, none⟩) n c)).run C.P W = .ok vs.toArray W := fun W hW =>
          run_firstCells_some W i.size n ⟨blk, 0, none⟩ n c vs hvl (fun j u hu => by
            rw [hadd]
            have : W.cell? ⟨blk, 0 + j, none⟩ = w.cell? ⟨blk, 0 + j, none⟩ := by simp [World.cell?, hW]
            rw [this]; exact (h.imm _ _ _ (himm j u hu)).1)
        obtain ⟨cap, rest, h1, h2, h3, h4, h5⟩ := grow (some ⟨blk, 0, none⟩) n c vs ho hvl (by omega) hsm
        rw [Sem.run_bind, h5]
        have hs' := h.grow (grownBy_drew w)
        refine fits_newTok hs' (hr.append hr2) ?_ h3 (by rw [List.length_append, hl, hl2, Nat.add_mul]) h4 h1 h2
        intro u hu
        simp only [List.mem_append] at hu
        rcases hu with hu | hu
        · obtain ⟨j, hj⟩ := List.getElem?_of_mem hu
          exact (h.imm _ _ _ (himm j u hj)).2
        · exact h12 u hu
    · rename_i b off n esz e'
      split
      · rename_i l hb
        rintro ⟨rfl, rfl, rfl, hnl, hsm⟩
        simp only [Rep] at hs
        obtain ⟨x, c, hx, rfl, hnc, hcm, hsize, hxe⟩ := hs
        obtain ⟨x', cur, vs, rest0, k1, k2, k3, k4, k5, k6, k7, k8⟩ := h.box b l hb
        rw [hx] at k1; cases k1
        have hcs : cur.size = c * i.size := by rw [k4]; omega
        have hvl := k6.length
        by_cases hroom : n + m ≤ c
        · have hfit : n * i.size + us.length ≤ cur.size := by
            rw [hus, hcs, ← Nat.add_mul]; exact Nat.mul_le_mul_right _ hroom
          have hst := run_storeCells_at C.P x.blk (n * i.size) x.e us 0 cur w k3 (by simpa using hfit) h12
          simp only [Nat.add_zero] at hst
          rw [Sem.run_bind, run_appendRoom ht hu hd hi hm (hf w rfl) hroom]
          simp only [hadd, Nat.zero_add, hst, Result.andThen_ok]
          have e1 : cur.toList.take (n * i.size) = vs.take (n * i.size) := by rw [k5, List.take_append_of_le_length (by omega)]
          have hs1 := h.setRow hb hx (l' := l.take (n * i.size) ++ l2) (cur.toList.take (n * i.size) ++ us ++ cur.toList.drop (n * i.size + us.length)).toArray (vs.take (n * i.size) ++ us) (cur.toList.drop (n * i.size + us.length)) (by
              simp only [List.size_toArray, List.length_append, List.length_take, List.length_drop, Array.length_toList]; omega) (by simp [e1]) ((k6.take _).append hr2) (by
              intro u hu
              simp only [List.mem_append] at hu
              rcases hu with (hu | hu) | hu
              · exact k7 u (List.mem_of_mem_take hu)
              · exact h12 u hu
              · exact k7 u (List.mem_of_mem_drop hu))
          obtain ⟨b', g', f1, hle, f2, f3⟩ := hs1.rename (b := b) (x := .box (l.take (n * i.size) ++ l2)) (by simp [St.setBox, St.set]) hx
          have ed : (σ.setBox b (l.take (n * i.size) ++ l2)).del b = σ.del b := by
            simp only [St.setBox, St.set, St.del, St.mk.injEq, and_true]
            funext y
            split <;> rfl
          rw [ed] at f1 f3
          refine ⟨_, _, g', b', rfl, f1, hle, f3, ?_⟩
          simp only [NV.at, Rep]
          exact ⟨x, c, f2, rfl, hroom, hcm, hsize, hxe⟩
        · have hvn : (vs.take (n * i.size)).length = n * i.size := by simp; omega
          have ho : ∀ W : World, W.heap = w.heap → (Builtin.firstCells i.size n (.slice (some ⟨x.blk, 0, none⟩) n c)).run C.P W = .ok (vs.take (n * i.size)).toArray W := fun W hW =>
            run_firstCells_some W i.size n ⟨x.blk, 0, none⟩ n c _ hvn (fun j u hu => by
              rw [hadd]
              have : W.cell? ⟨x.blk, 0 + j, none⟩ = w.cell? ⟨x.blk, 0 + j, none⟩ := by simp [World.cell?, hW]
              rw [this, cell_of_row _ _ _ cur x.e (0, 0) k3, Nat.zero_add, ← Array.getElem?_toList, k5]
              rw [List.getElem?_take] at hu
              split at hu
              · rw [List.getElem?_append_left (by omega)]; exact hu
              · cases hu)
          obtain ⟨cap, rest, h1, h2, h3, h4, h5⟩ := grow (some ⟨x.blk, 0, none⟩) n c _ ho hvn (by omega) hsm
          rw [Sem.run_bind, h5]
          have hs' := h.grow (grownBy_drew w)
          refine fits_newMs hs' ((k6.take _).append hr2) ?_ h3 h4 h1 h2
          intro u hu
          simp only [List.mem_append] at hu
          rcases hu with hu | hu
          · refine k7 u ?_
            rw [k5]
            exact List.mem_append_left _ (List.mem_of_mem_take hu)
          · exact h12 u hu
      · trivial
    · trivial
  · trivial
end
end Go.Rip

set_option linter.unusedSimpArgs false
set_option linter.unusedVariables false
set_option linter.loopingSimpArgs false
namespace Go.Rip
open Go.RowKit
section
variable {C : Cfg} {g : Gh} {σ : St} {w : World}

/-! ### Slicing -/
def boundA (dflt : Int) : Option AV → Option Int
  | none => some dflt
  | some (.int _ n) => some n
  | _ => none
def capSl : Cap → Option AV → Cap
  | .full, none => .full
  | _, _ => .unk
def sliceA (P : Program) (t : TypeId) (x : AV) (lo hi : Option AV) : OpR :=
  match x with
  | .str s => match isStrT P t, boundA 0 lo, boundA s.length hi with
    | true, some l, some h => .cond (0 ≤ l ∧ l ≤ h ∧ h ≤ s.length) (.val (.str ((s.take h.toNat).drop l.toNat)))
    | _, _, _ => .bad
  | .vec n cap l => match sliceT P t, boundA 0 lo, boundA n hi with
    | some (_, sz), some a, some b => .cond (0 ≤ a ∧ a ≤ b ∧ b ≤ n) (.val (.vec (b.toNat - a.toNat) (capSl cap hi) ((l.take (b.toNat * sz)).drop (a.toNat * sz))))
    | _, _, _ => .bad
  | .nilslice => match sliceT P t, boundA 0 lo, boundA 0 hi with
    | some (_, _), some a, some b => .cond (a = 0 ∧ b = 0) (.val .nilslice)
    | _, _, _ => .bad
  | .ms b off n esz e => match sliceT P t, boundA 0 lo, boundA n hi with
    | some (_, sz), some a, some h => .cond (0 ≤ a ∧ a ≤ h ∧ h ≤ n ∧ (a < n ∨ a = 0) ∧ esz = sz) (.val (.ms b (off + a.toNat * sz) (h.toNat - a.toNat) esz e))
    | _, _, _ => .bad
  | _ => .bad

theorem run_sliceBound {P : Program} {x : Value} {k : IntKind} {n : Int} {y : Nat} {code : BoundsCode} (hx : x = .int k n) (h0 : 0 ≤ n) (h1 : n ≤ y) : (Instr.sliceBound x y code).run P w = .ok n.toNat w := by
  subst hx
  simp [Instr.sliceBound, asIntOf, h0, h1]

theorem boundA_rep {dflt : Int} {o : Option AV} {v : Option Value} {n : Int} (hr : match o, v with | none, none => True | some x, some u => Rep g x u | _, _ => False) (hb : boundA dflt o = some n) :
    (o = none ∧ v = none ∧ n = dflt) ∨ ∃ k u, v = some u ∧ u = .int k n ∧ ∃ x, o = some x := by
  cases o with
  | none =>
    cases v with
    | none => simp [boundA] at hb; exact .inl ⟨rfl, rfl, hb.symm⟩
    | some u => exact hr.elim
  | some x =>
    cases v with
    | none => exact hr.elim
    | some u =>
      cases x <;> simp only [boundA, reduceCtorEq, Option.some.injEq] at hb
      subst hb
      simp only [Rep] at hr
      exact .inr ⟨_, u, rfl, hr, _, rfl⟩

theorem run_sliceBounds {P : Program} {isS : Bool} {len cap : Nat} {lo hi : Option AV} {vl vh : Option Value} {a b : Int}
    (hl : match lo, vl with | none, none => True | some x, some u => Rep g x u | _, _ => False) (hh : match hi, vh with | none, none => True | some x, some u => Rep g x u | _, _ => False)
    (ha : boundA 0 lo = some a) (hb : boundA len hi = some b) (h0 : 0 ≤ a) (h1 : a ≤ b) (h2 : b ≤ len) (h3 : len ≤ cap) :
    (Instr.sliceBounds isS len cap vl vh none).run P w = .ok (a.toNat, b.toNat, cap) w := by
  rcases boundA_rep hl ha with ⟨_, rfl, rfl⟩ | ⟨k, u, rfl, hu, _⟩ <;> rcases boundA_rep hh hb with ⟨_, rfl, rfl⟩ | ⟨k', u', rfl, hu', _⟩
  · simp [Instr.sliceBounds]
  · have e1 : ∀ c, (Instr.sliceBound u' cap c).run P w = .ok b.toNat w := fun c => run_sliceBound hu' (by omega) (by omega)
    simp [Instr.sliceBounds, e1]
  · have e1 : ∀ c, (Instr.sliceBound u len c).run P w = .ok a.toNat w := fun c => run_sliceBound hu h0 (by omega)
    simp [Instr.sliceBounds, e1]
  · have e1 : ∀ c, (Instr.sliceBound u' cap c).run P w = .ok b.toNat w := fun c => run_sliceBound hu' (by omega) (by omega)
    have e2 : ∀ c, (Instr.sliceBound u b.toNat c).run P w = .ok a.toNat w := fun c => run_sliceBound hu h0 (by omega)
    simp [Instr.sliceBounds, e1, e2]

theorem sliceA_fits (h : Sim g σ w) {t : TypeId} {x : AV} {v : Value} {lo hi : Option AV} {vl vh : Option Value} (hx : Rep g x v)
    (hl : match lo, vl with | none, none => True | some x, some u => Rep g x u | _, _ => False) (hh : match hi, vh with | none, none => True | some x, some u => Rep g x u | _, _ => False) :
    OpR.Fits C g σ (sliceA C.P t x lo hi) ((do let r ← Instr.sliceAt t v vl vh none; pure (Next.value r) : Sem Next).run C.P w) := by
  have hadd : ∀ blk off j, (⟨blk, off, none⟩ : Addr).add j = ⟨blk, off + j, none⟩ := fun blk off j => by unfold Addr.add; split <;> simp_all
  unfold sliceA
  split
  · rename_i s
    split
    · rename_i a b ht ha hb
      rintro ⟨h0, h1, h2⟩
      simp only [Rep] at hx
      subst hx
      have hsz : (ByteArray.mk s.toArray).size = s.length := by simp [ByteArray.size]
      have hr := run_sliceBounds (w := w) (P := C.P) (isS := false) hl hh ha hb h0 h1 h2 (Nat.le_refl _)
      simp only [Instr.sliceAt, Instr.slice, run_underlying (isStrT_spec ht), Sem.run_bind, Result.andThen_ok, hsz, hr, Sem.run_pure, Option.isSome_none, Bool.false_eq_true, if_false]
      refine fits_val h ?_
      simp only [Rep]
      congr 1
      apply ByteArray.ext
      simp only [ByteArray.data_extract]
      apply Array.ext'
      simp [List.extract_eq_take_drop, List.drop_take]
    · trivial
  · rename_i n cap l
    split
    · rename_i e sz a b ht ha hb
      rintro ⟨h0, h1, h2⟩
      simp only [Rep] at hx
      obtain ⟨blk, off, c, vs, rfl, hnc, hcm, hcap, himm, hr⟩ := hx
      obtain ⟨i, z, hu, hi', hz, hzs, rfl, hpos, _⟩ := sliceT_spec ht
      have hrun := run_sliceBounds (w := w) (P := C.P) (isS := true) hl hh ha hb h0 h1 h2 hnc
      simp only [Instr.sliceAt, Instr.slice, run_underlying hu, Sem.run_bind, Result.andThen_ok, hrun, Sem.run_pure, run_sizeOf' hi']
      refine fits_val h ?_
      have hcap' : CapOk g (capSl cap hi) blk (if c = a.toNat then off else off + a.toNat * i.size) (b.toNat - a.toNat) (c - a.toNat) := by
        cases cap with
        | full =>
          cases hi with
          | none =>
            simp only [capSl, CapOk] at hcap ⊢
            simp only [boundA, Option.some.injEq] at hb
            omega
          | some y => trivial
        | own τ => trivial
        | unk => trivial
      simp only [Rep]
      refine ⟨blk, if c = a.toNat then off else off + a.toNat * i.size, c - a.toNat, (vs.take (b.toNat * i.size)).drop (a.toNat * i.size), ?_, by omega, by omega, hcap', ?_, (hr.take _).drop _⟩
      · simp only [Option.map_some, hadd]
        split <;> rfl
      · split
        · rename_i e1
          have : (vs.take (b.toNat * i.size)).drop (a.toNat * i.size) = [] := by
            rw [List.drop_eq_nil_iff]
            have : b.toNat ≤ a.toNat := by omega
            have := Nat.mul_le_mul_right i.size this
            simp; omega
          rw [this]; intro j u hu; simp at hu
        · intro j u hu
          rw [List.getElem?_drop, List.getElem?_take] at hu
          split at hu
          · have := himm _ u hu
            rw [Nat.add_assoc]; exact this
          · cases hu
    · trivial
  · split
    · rename_i e sz a b ht ha hb
      rintro ⟨rfl, rfl⟩
      simp only [Rep] at hx
      subst hx
      obtain ⟨i, z, hu, hi', hz, hzs, rfl, hpos, _⟩ := sliceT_spec ht
      have hrun := run_sliceBounds (w := w) (P := C.P) (isS := true) (len := 0) (cap := 0) hl hh ha (by simpa using hb) (by omega) (by omega) (by simp) (Nat.le_refl _)
      simp only [Instr.sliceAt, Instr.slice, run_underlying hu, Sem.run_bind, Result.andThen_ok, hrun, Sem.run_pure, run_sizeOf' hi']
      refine fits_val h (by simp [Rep])
    · trivial
  · rename_i b off n esz e
    split
    · rename_i e' sz a hh' ht ha hb
      rintro ⟨h0, h1, h2, h3, rfl⟩
      simp only [Rep] at hx
      obtain ⟨y, c, hy, rfl, hnc, hcm, hsz, hxe⟩ := hx
      obtain ⟨i, z, hu, hi', hz, hzs, rfl, hpos, _⟩ := sliceT_spec ht
      have hrun := run_sliceBounds (w := w) (P := C.P) (isS := true) hl hh ha hb h0 h1 h2 hnc
      simp only [Instr.sliceAt, Instr.slice, run_underlying hu, Sem.run_bind, Result.andThen_ok, hrun, Sem.run_pure, run_sizeOf' hi']
      refine fits_val h ?_
      simp only [Rep]
      have e2 : off + a.toNat * i.size + (c - a.toNat) * i.size = y.size := by
        have : a.toNat * i.size + (c - a.toNat) * i.size = c * i.size := by rw [← Nat.add_mul]; congr 1; omega
        omega
      refine ⟨y, c - a.toNat, hy, ?_, by omega, by omega, e2, hxe⟩
      simp only [Option.map_some, hadd]
      split
      · rename_i e1
        have h0a : a.toNat = 0 := by omega
        simp [h0a]
      · rfl
    · trivial
  · trivial

/-! ### Small ones -/
def unA (op : UnOp) (x : AV) : OpR :=
  match op, x with
  | .not, .bool b => .val (.bool (!b))
  | .neg, .int k n => arithA k (0 - n)
  | _, _ => .bad
theorem arithA_fits (h : Sim g σ w) (k : IntKind) (n : Int) : OpR.Fits C g σ (arithA k n) (.ok (.value (.int k (k.wrap n))) w) := by
  unfold arithA
  split
  · intro hi
    rw [wrap_I64 hi]
    exact fits_val h (by simp only [Rep])
  · exact fits_val h (by simp only [Rep])
theorem unA_fits (h : Sim g σ w) {op : UnOp} {x : AV} {v : Value} (hx : Rep g x v) : OpR.Fits C g σ (unA op x) ((do let r ← Op.unary op v; pure (Next.value r) : Sem Next).run C.P w) := by
  unfold unA
  split
  · simp only [Rep] at hx; subst hx
    exact fits_val h (by simp only [Rep])
  · simp only [Rep] at hx; subst hx
    simp only [Op.unary, Op.intArith, Sem.run_bind, Sem.run_pure, Result.andThen_ok]
    exact arithA_fits h _ _
  · trivial

def intT (P : Program) (t : TypeId) : Option IntKind := match P.underlying t with | some (.int k) => some k | _ => none
def isBytesT (P : Program) (t : TypeId) : Bool := match P.underlying t with
  | some (.slice e) => match P.underlying e with
    | some (.int .u8) => true
    | _ => false
  | _ => false
theorem isBytesT_spec {P : Program} {t : TypeId} (h : isBytesT P t = true) : ∃ e, P.underlying t = some (.slice e) ∧ P.underlying e = some (.int .u8) := by
  unfold isBytesT at h
  split at h
  · rename_i e he
    split at h
    · rename_i hu; exact ⟨e, he, hu⟩
    · cases h
  · cases h
def convA (P : Program) (src dst : TypeId) (x : AV) : OpR :=
  match intT P dst, (P.underlying src).isSome, x with
  | some .i64, true, .int _ n => .cond (I64 n) (.val (.int .i64 n))
  | some k, true, .int _ n => .val (.int k (k.wrap n))
  | none, true, .str s => if isStrT P dst = true ∧ isStrT P src = true then .val (.str s) else
    if isBytesT P dst = true ∧ isStrT P src = true then .cond (s.length ≤ 4294967296) (.val (.vec s.length .unk (s.map fun b => .int .u8 b.toNat))) else .bad
  | _, _, _ => .bad
theorem strBytes_fits (h : Sim g σ w) {src dst e : TypeId} {s : List UInt8} (hd : C.P.underlying dst = some (.slice e)) (he : C.P.underlying e = some (.int .u8)) (hs : C.P.underlying src = some .string) (hlen : s.length ≤ 4294967296) :
    OpR.Fits C g σ (.val (.vec s.length .unk (s.map fun b => .int .u8 b.toNat))) ((do let r ← convert src dst (.string ⟨s.toArray⟩); pure (Next.value r) : Sem Next).run C.P w) := by
  have hrun := Lib.run_convert_string_bytes (P := C.P) w src dst e ⟨s.toArray⟩ hs hd he
  have hsz : (ByteArray.mk s.toArray).size = s.length := by simp [ByteArray.size]
  rw [hsz] at hrun
  have hge := grownCap_ge w s.length 0 e
  have hle := grownCap_le_maxLen w s.length 0 e (by unfold maxLen; omega)
  let vs : List Value := s.map fun b => .int .u8 b.toNat
  let g' : Gh := { g with imm := fun blk o => if blk = w.heap.size then vs[o]? else g.imm blk o }
  have hnew : ∀ o, g'.imm w.heap.size o = vs[o]? := fun o => by show (if w.heap.size = w.heap.size then _ else _) = _; rw [if_pos rfl]
  have hold : ∀ blk o, blk ≠ w.heap.size → g'.imm blk o = g.imm blk o := fun blk o hx => by show (if blk = w.heap.size then _ else _) = _; rw [if_neg hx]
  have hle' : Gh.Le g g' := ⟨rfl, rfl, fun _ _ h => h, fun blk o u hu => by
    rw [hold _ _ (fun e => by subst e; rw [h.imm_new (Nat.le_refl _)] at hu; cases hu)]; exact hu, fun _ _ h => h, fun _ h => h, fun q o hq => hold _ _ (by have := h.le; omega), fun _ _ => rfl⟩
  have hs' : Sim g' σ (Lib.bytesWorld w e ⟨s.toArray⟩) := by
    refine h.change w.heap.size h.le hle' rfl rfl ⟨rfl, rfl, rfl, by rw [Lib.bytesWorld_size]; omega⟩ (fun k _ hk => Lib.bytesWorld_at_old w e _ k hk) hold (fun _ _ => rfl) (fun o u hu => ?_) (fun es c hr => ?_) (fun b x p k1 k2 => Nat.ne_of_lt (h.place_lt k1 k2)) (h.res_new (Nat.le_refl _))
    · rw [hnew] at hu
      simp only [vs, List.getElem?_map, Option.map_eq_some_iff] at hu
      obtain ⟨b, hb, rfl⟩ := hu
      have hlt := (List.getElem?_eq_some_iff.1 hb).1
      refine ⟨?_, rfl⟩
      rw [Lib.bytesWorld_cell w e ⟨s.toArray⟩ o (by rw [hsz]; exact hlt)]
      simp [List.getD, hb]
    · have : g.imap w.heap.size = some (es, c) := hr
      rw [h.imap_new (Nat.le_refl _)] at this; cases this
  simp only [Sem.run_bind, hrun, Result.andThen_ok, Sem.run_pure]
  refine ⟨_, _, g', .inl rfl, hle', hs', ?_⟩
  simp only [Rep]
  refine ⟨w.heap.size, 0, _, vs, rfl, hge, hle, trivial, fun i u hu => by rw [Nat.zero_add, hnew]; exact hu, ?_⟩
  refine RepL.of_get (by simp [vs]) fun i x v hx hv => ?_
  simp only [vs, List.getElem?_map, Option.map_eq_some_iff] at hx hv
  obtain ⟨b, hb, rfl⟩ := hx
  obtain ⟨b', hb', rfl⟩ := hv
  rw [hb] at hb'; cases hb'
  simp only [Rep]
theorem convA_fits (h : Sim g σ w) {src dst : TypeId} {x : AV} {v : Value} (hx : Rep g x v) : OpR.Fits C g σ (convA C.P src dst x) ((do let r ← convert src dst v; pure (Next.value r) : Sem Next).run C.P w) := by
  unfold convA
  split
  · rename_i k n hk hs
    simp only [Rep] at hx; subst hx
    have hu : C.P.underlying dst = some (.int .i64) := by unfold intT at hk; split at hk <;> simp_all
    obtain ⟨d, hd⟩ := Option.isSome_iff_exists.1 hs
    intro hi
    simp only [convert, run_underlying hu, run_underlying hd, Sem.run_bind, Sem.run_pure, Result.andThen_ok, Conv.intToInt]
    rw [wrap_I64 hi]
    exact fits_val h (by simp only [Rep])
  · rename_i k _ n _ hk hs
    simp only [Rep] at hx; subst hx
    have hu : C.P.underlying dst = some (.int k) := by unfold intT at hk; split at hk <;> simp_all
    obtain ⟨d, hd⟩ := Option.isSome_iff_exists.1 hs
    simp only [convert, run_underlying hu, run_underlying hd, Sem.run_bind, Sem.run_pure, Result.andThen_ok, Conv.intToInt]
    exact fits_val h (by simp only [Rep])
  · split
    · rename_i hc
      simp only [Rep] at hx; subst hx
      simp only [convert, run_underlying (isStrT_spec hc.1), run_underlying (isStrT_spec hc.2), Sem.run_bind, Sem.run_pure, Result.andThen_ok]
      exact fits_val h (by simp only [Rep])
    · split
      · rename_i hc
        intro hlen
        simp only [Rep] at hx; subst hx
        obtain ⟨e, hd, he⟩ := isBytesT_spec hc.1
        exact strBytes_fits h hd he (isStrT_spec hc.2) hlen
      · trivial
  · trivial

def notIfaceT (P : Program) (t : TypeId) : Bool := match P.underlying t with | some (.interface _) => false | some _ => true | none => false
def makeIfaceA (P : Program) (t : TypeId) (x : AV) : OpR := if notIfaceT P t = true then .val (.iface t x) else .bad
theorem makeIfaceA_fits (h : Sim g σ w) {t : TypeId} {x : AV} {v : Value} (hx : Rep g x v) : OpR.Fits C g σ (makeIfaceA C.P t x) ((do let r ← Instr.makeInterface t v; pure (Next.value r) : Sem Next).run C.P w) := by
  unfold makeIfaceA
  split
  · rename_i hc
    unfold notIfaceT at hc
    split at hc
    · cases hc
    · rename_i d hn hd
      simp only [Instr.makeInterface, run_underlying hd, Sem.run_bind, Result.andThen_ok]
      cases d
      case interface => exact (hn _ rfl).elim
      all_goals
        simp only [Sem.run_pure, Result.andThen_ok]
        exact fits_val h (by simp only [Rep]; exact ⟨v, rfl, hx⟩)
    · cases hc
  · trivial

def extractA (x : AV) (i : Nat) : OpR :=
  match x with
  | .tup l => headR (l.drop i)
  | _ => .bad
theorem extractA_fits (h : Sim g σ w) {x : AV} {v : Value} (hx : Rep g x v) (i : Nat) : OpR.Fits C g σ (extractA x i) ((do let r ← Instr.extract v i; pure (Next.value r) : Sem Next).run C.P w) := by
  unfold extractA
  split
  · rename_i l
    simp only [Rep] at hx
    obtain ⟨vs, rfl, hr⟩ := hx
    cases hd : l.drop i with
    | nil => trivial
    | cons y ys =>
      have hy : l[i]? = some y := by
        have := congrArg (fun l => l[0]?) hd
        simpa using this
      obtain ⟨u, hu, hyu⟩ := hr.get hy
      have e : vs.toArray[i]? = some u := by simpa using hu
      simp only [Instr.extract, e, Sem.run_bind, Sem.run_pure, Result.andThen_ok]
      exact fits_val h hyu
  · trivial

def panicA (x : AV) : OpR :=
  match x with
  | .iface t v => .panic (.iface t v)
  | _ => .bad
theorem panicA_fits (h : Sim g σ w) {x : AV} {v : Value} (hx : Rep g x v) : OpR.Fits C g σ (panicA x) ((do let r ← Instr.panic v; pure (Next.value r) : Sem Next).run C.P w) := by
  unfold panicA
  split
  · have hx' := hx
    simp only [Rep] at hx
    obtain ⟨u, rfl, hu⟩ := hx
    simp only [Instr.panic, Sem.run_bind, run_goPanic, Result.andThen_halt]
    exact ⟨_, w, rfl, h, hx'⟩
  · trivial

theorem nilCheckA_fits (h : Sim g σ w) {ev : Operand → Value} {o : Oper} {X : Operand} {x : AV} (ho : o.op = .nilCheck X) (hx : Rep g x (ev X)) : OpR.Fits C g σ (nilCheckA x) ((execOp ev o).run C.P w) := by
  unfold nilCheckA
  split
  · have hx' := hx
    simp only [Rep] at hx
    obtain ⟨y, _, hv⟩ := hx
    simp only [execOp, ho, hv, Sem.run_pure]
    rw [hv] at hx'
    exact fits_val h hx'
  · have hx' := hx
    simp only [Rep] at hx
    obtain ⟨_, _, _, hv, _⟩ := hx
    simp only [execOp, ho, hv, Sem.run_pure]
    rw [hv] at hx'
    exact fits_val h hx'
  · have hx' := hx
    simp only [Rep] at hx
    obtain ⟨_, _, hv, _⟩ := hx
    simp only [execOp, ho, hv, Sem.run_pure]
    rw [hv] at hx'
    exact fits_val h hx'
  · trivial

/-! ### len, min, max -/
def lenT (P : Program) (t : TypeId) : Option Bool :=
  match P.underlying t with
  | some .string => some true
  | some (.slice _) => some false
  | _ => none
def lenA (P : Program) (t : TypeId) (x : AV) (σ : St) : OpR :=
  match lenT P t, x with
  | some true, .str s => .val (.int .i64 s.length)
  | some false, .vec n _ _ => .val (.int .i64 n)
  | some false, .ms _ _ n _ _ => .val (.int .i64 n)
  | some false, .nilslice => .val (.int .i64 0)
  | _, _ => .bad
theorem lenT_spec {P : Program} {t : TypeId} {b : Bool} (h : lenT P t = some b) : (b = true ∧ P.underlying t = some .string) ∨ (b = false ∧ ∃ e, P.underlying t = some (.slice e)) := by
  unfold lenT at h
  split at h
  · rename_i e; simp at h; exact .inl ⟨h, e⟩
  · rename_i e' e; simp at h; exact .inr ⟨h, _, e⟩
  · cases h
theorem lenA_fits (h : Sim g σ w) {t ty : TypeId} {x : AV} {v : Value} (hx : Rep g x v) : OpR.Fits C g σ (lenA C.P t x σ) ((do let r ← Builtin.len_ #[t] ty #[v]; pure (Next.value r) : Sem Next).run C.P w) := by
  unfold lenA
  split
  · rename_i s hu0
    have hu : C.P.underlying t = some .string := by rcases lenT_spec hu0 with ⟨_, h⟩ | ⟨h, _⟩ <;> first | exact h | cases h
    simp only [Rep] at hx; subst hx
    have hsz : (ByteArray.mk s.toArray).size = s.length := by simp [ByteArray.size]
    simp [Builtin.len_, run_underlying hu, goInt, hsz]
    exact fits_val h (by simp only [Rep])
  · rename_i hu0
    obtain ⟨e0, hu⟩ : ∃ e, C.P.underlying t = some (.slice e) := by rcases lenT_spec hu0 with ⟨h, _⟩ | ⟨_, h⟩ <;> first | exact h | cases h
    simp only [Rep] at hx
    obtain ⟨_, _, _, _, rfl, _⟩ := hx
    simp [Builtin.len_, run_underlying hu, goInt]
    exact fits_val h (by simp only [Rep])
  · rename_i hu0
    obtain ⟨e0, hu⟩ : ∃ e, C.P.underlying t = some (.slice e) := by rcases lenT_spec hu0 with ⟨h, _⟩ | ⟨_, h⟩ <;> first | exact h | cases h
    simp only [Rep] at hx
    obtain ⟨_, _, _, rfl, _⟩ := hx
    simp [Builtin.len_, run_underlying hu, goInt]
    exact fits_val h (by simp only [Rep])
  · rename_i hu0
    obtain ⟨e0, hu⟩ : ∃ e, C.P.underlying t = some (.slice e) := by rcases lenT_spec hu0 with ⟨h, _⟩ | ⟨_, h⟩ <;> first | exact h | cases h
    simp only [Rep] at hx; subst hx
    simp [Builtin.len_, run_underlying hu, goInt]
    exact fits_val h (by simp only [Rep])
  · trivial
/-- The length's type, told for simp. -/
def minA (x y : AV) : OpR :=
  match x, y with
  | .int k a, .int k' b => if k = k' then .val (.int k (if b < a then b else a)) else .bad
  | _, _ => .bad
def maxA (x y : AV) : OpR :=
  match x, y with
  | .int k a, .int k' b => if k = k' then .val (.int k (if b > a then b else a)) else .bad
  | _, _ => .bad
theorem maxA_fits (h : Sim g σ w) {ts : Array TypeId} {ty : TypeId} {x y : AV} {v u : Value} (hx : Rep g x v) (hy : Rep g y u) : OpR.Fits C g σ (maxA x y) ((do let r ← Builtin.max_ ts ty #[v, u]; pure (Next.value r) : Sem Next).run C.P w) := by
  unfold maxA
  split
  · split
    · rename_i e; subst e
      simp only [Rep] at hx hy; subst hx hy
      simp [Builtin.max_, Builtin.max2]
      exact fits_val h (by simp only [Rep])
    · trivial
  · trivial
theorem minA_fits (h : Sim g σ w) {ts : Array TypeId} {ty : TypeId} {x y : AV} {v u : Value} (hx : Rep g x v) (hy : Rep g y u) : OpR.Fits C g σ (minA x y) ((do let r ← Builtin.min_ ts ty #[v, u]; pure (Next.value r) : Sem Next).run C.P w) := by
  unfold minA
  split
  · split
    · rename_i e; subst e
      simp only [Rep] at hx hy; subst hx hy
      simp [Builtin.min_, Builtin.min2]
      exact fits_val h (by simp only [Rep])
    · trivial
  · trivial
end
end Go.Rip

set_option linter.unusedSimpArgs false
set_option linter.unusedVariables false
set_option linter.loopingSimpArgs false
namespace Go.Rip
open Go.RowKit
section
variable {C : Cfg} {g : Gh} {σ : St} {w : World}

/-! ### Literals of structs and slices -/
def fillA (place : Nat → Option (Nat × Nat)) : List (Nat × AV) → List AV → (List AV → OpR) → OpR
  | [], z, k => k z
  | (i, x) :: rest, z, k => match place i with
    | some (off, size) => .cond (x.lies = true ∧ (cellsA x).length = size ∧ off + size ≤ z.length) (fillA place rest (spliceL z off (cellsA x)) k)
    | none => .bad

theorem foldl_splice (off : Nat) : ∀ (l : List Value) (j : Nat) (cs : Array Value), off + j + l.length ≤ cs.size →
    ((l.zipIdx j).foldl (fun (cs : Array Value) (p : Value × Nat) => cs.setIfInBounds (off + p.2) p.1) cs).toList = cs.toList.take (off + j) ++ l ++ cs.toList.drop (off + j + l.length)
  | [], j, cs, _ => by simp
  | v :: l, j, cs, hle => by
    simp only [List.zipIdx_cons, List.foldl_cons]
    simp only [List.length_cons] at hle
    rw [foldl_splice off l (j + 1) _ (by simp; omega)]
    have hs := list_seg_step cs.toList (off + j) v l (by simpa using hle)
    rw [Array.toList_setIfInBounds]
    rw [show off + (j + 1) = off + j + 1 from rfl]
    exact hs

theorem fill_fits {place : Nat → Option (Nat × Nat)} {k : List AV → OpR} {kk : Array Value → Sem Value} {S : String}
    (hk : ∀ (z : List AV) (cs : Array Value), RepL g z cs.toList → (∀ u ∈ cs.toList, u.oneCell' = true) → OpR.Fits C g σ (k z) ((do let r ← kk cs; pure (Next.value r) : Sem Next).run C.P w)) :
    ∀ (parts : List (Nat × AV)) (vs : List (Nat × Value)) (z : List AV) (cs : Array Value), vs.length = parts.length → (∀ (i : Nat) (p : Nat × AV) (q : Nat × Value), parts[i]? = some p → vs[i]? = some q → p.1 = q.1 ∧ Rep g p.2 q.2) →
      RepL g z cs.toList → (∀ u ∈ cs.toList, u.oneCell' = true) →
      OpR.Fits C g σ (fillA place parts z k) ((do let r ← (match Instr.fill place cs vs with | some cs' => kk cs' | none => stuck S); pure (Next.value r) : Sem Next).run C.P w)
  | [], [], z, cs, _, _, hz, h1 => by
    simp only [fillA, Instr.fill]
    exact hk z cs hz h1
  | [], _ :: _, _, _, h, _, _, _ => by simp at h
  | _ :: _, [], _, _, h, _, _, _ => by simp at h
  | (i, x) :: parts, (j, v) :: vs, z, cs, hl, hp, hz, h1 => by
    obtain ⟨rfl, hx⟩ := hp 0 _ _ rfl rfl
    dsimp only at hx ⊢
    simp only [fillA]
    cases hpl : place i with
    | none => trivial
    | some os =>
      obtain ⟨off, size⟩ := os
      rintro ⟨a1, a2, a3⟩
      obtain ⟨hc1, hc2⟩ := cells_rep hx a1
      have hlen := hc1.length
      have hzl := hz.length
      have hvs : v.cells.size = size := by rw [← Array.length_toList, hlen, a2]
      have hcz : off + v.cells.size ≤ cs.size := by rw [hvs, ← Array.length_toList, hzl]; exact a3
      have e : (v.cells.zipIdx.foldl (fun (cs : Array Value) (p : Value × Nat) => cs.setIfInBounds (off + p.2) p.1) cs).toList = cs.toList.take off ++ v.cells.toList ++ cs.toList.drop (off + v.cells.toList.length) := by
        rw [← Array.foldl_toList, Array.toList_zipIdx]
        have := foldl_splice off v.cells.toList 0 cs (by simpa using hcz)
        simpa using this
      have hcond : (v.cells.size ≠ size || off + v.cells.size > cs.size) = false := by simp [hvs]; omega
      simp only [Instr.fill, hpl]
      rw [if_neg (by rw [hcond]; simp)]
      refine fill_fits hk parts vs _ _ (by simpa using hl) (fun i p q h2 h3 => hp (i + 1) p q (by simpa using h2) (by simpa using h3)) ?_ ?_
      · show RepL g (spliceL z off (cellsA x)) (v.cells.zipIdx.foldl (fun (cs : Array Value) (p : Value × Nat) => cs.setIfInBounds (off + p.2) p.1) cs).toList
        rw [e]
        unfold spliceL
        rw [hlen]
        exact ((hz.take _).append hc1).append (hz.drop _)
      · show ∀ u ∈ (v.cells.zipIdx.foldl (fun (cs : Array Value) (p : Value × Nat) => cs.setIfInBounds (off + p.2) p.1) cs).toList, u.oneCell' = true
        rw [e]
        intro u hu
        simp only [List.mem_append] at hu
        rcases hu with (hu | hu) | hu
        · exact h1 u (List.mem_of_mem_take hu)
        · exact hc2 u hu
        · exact h1 u (List.mem_of_mem_drop hu)

def evParts (C : Cfg) (ρ : Env) (parts : Array (Nat × Operand)) : List (Nat × AV) := parts.toList.map fun p => (p.1, ρ.ev C p.2)
def buildA (P : Program) (t : TypeId) (parts : List (Nat × AV)) : OpR :=
  match structT P t, zeroC P t with
  | some pl, some z => fillA (fun i => pl[i]?) parts z fun z => .val (.agg z)
  | none, some z => match arrT P t with
    | some (_, _, sz) => fillA (fun i => some (i * sz, sz)) parts z fun z => .val (.agg z)
    | none => .bad
  | _, _ => .bad
theorem structT_spec {P : Program} {t : TypeId} {pl : List (Nat × Nat)} (h : structT P t = some pl) : ∃ fs : Array Field, P.underlying t = some (.struct fs) ∧ pl = fs.toList.map (fun f => (f.offset, P.cellsOf f.type)) ∧
    (fs.mapM (fun f => do pure (f.offset, ← sizeOf f.type) : Field → Sem (Nat × Nat))).run P w = .ok pl.toArray w := by
  unfold structT at h
  split at h
  · rename_i fs hu
    split at h
    · rename_i hall
      simp only [Option.some.injEq] at h
      refine ⟨fs, hu, h.symm, ?_⟩
      rw [Array.mapM_eq_mapM_toList]
      rw [Array.all_eq_true_iff_forall_mem] at hall
      have key : ∀ l : List Field, (∀ f ∈ l, (P.info? f.type).isSome = true) → (l.mapM (fun f => do pure (f.offset, ← sizeOf f.type) : Field → Sem (Nat × Nat))).run P w = .ok (l.map fun f => (f.offset, P.cellsOf f.type)) w := by
        intro l
        induction l with
        | nil => intro _; simp
        | cons f l ih =>
          intro hf
          obtain ⟨i, hi⟩ := Option.isSome_iff_exists.1 (hf f (by simp))
          have ih' := ih fun x hx => hf x (by simp [hx])
          have hc : P.cellsOf f.type = i.size := by simp [Program.cellsOf, hi]
          simp only [List.mapM_cons, Sem.run_bind, run_sizeOf' hi, Result.andThen_ok, Sem.run_pure, ih', List.map_cons, hc]
      have := key fs.toList (fun f hf => hall f (by simpa using hf))
      simp only [Sem.run_map, this, Result.andThen_ok, h]
    · cases h
  · cases h
theorem buildA_fits (h : Sim g σ w) {t : TypeId} {parts : List (Nat × AV)} {vs : Array (Nat × Value)} (hl : vs.size = parts.length) (hp : ∀ (i : Nat) (p : Nat × AV) (q : Nat × Value), parts[i]? = some p → vs[i]? = some q → p.1 = q.1 ∧ Rep g p.2 q.2) :
    OpR.Fits C g σ (buildA C.P t parts) ((do let r ← Instr.build t vs; pure (Next.value r) : Sem Next).run C.P w) := by
  unfold buildA
  split
  · rename_i pl z hs hz
    obtain ⟨fs, hu, hpl, hrun⟩ := structT_spec (w := w) hs
    obtain ⟨i, zv, hi, hzz, hm⟩ := zeroC_spec hz
    obtain ⟨h1, h2⟩ := mapM_ofScalar_rep (g := g) hm
    have key := fill_fits (C := C) (g := g) (σ := σ) (w := w) (place := fun i => pl.toArray[i]?) (k := fun z => .val (.agg z)) (kk := fun cs => pure (.agg cs)) (S := "build: no such field, or a part of the wrong size") (fun z cs hz h1 => by
      simp only [Sem.run_bind, Sem.run_pure, Result.andThen_ok]
      exact fits_val h (by simp only [Rep]; exact ⟨cs.toList, by simp, h1, hz⟩)) parts vs.toList z zv.cells (by simpa using hl) (fun i p q h1 h2 => hp i p q h1 (by simpa using h2)) h1 h2
    have e : (fun i : Nat => pl.toArray[i]?) = fun i => pl[i]? := by funext i; simp
    rw [← e]
    simp only [Instr.build, Sem.run_bind, run_zeroValue' hi hzz, Result.andThen_ok, run_underlying hu, hrun]
    cases hf : Instr.fill (fun i : Nat => pl.toArray[i]?) zv.cells vs.toList with
    | none => simp only [hf, Sem.run_bind, run_stuck, Result.andThen_halt] at key ⊢; exact key
    | some cs' => simp only [hf, Sem.run_bind, Sem.run_pure, Result.andThen_ok] at key ⊢; exact key
  · rename_i z hs hz
    split
    · rename_i n e sz ha
      obtain ⟨ie, hu, hie, hsz⟩ := arrT_spec ha
      obtain ⟨i, zv, hi, hzz, hm⟩ := zeroC_spec hz
      obtain ⟨h1, h2⟩ := mapM_ofScalar_rep (g := g) hm
      have key := fill_fits (C := C) (g := g) (σ := σ) (w := w) (place := fun i => some (i * sz, sz)) (k := fun z => .val (.agg z)) (kk := fun cs => pure (.agg cs)) (S := "build: a part of the wrong size") (fun z cs hz h1 => by
        simp only [Sem.run_bind, Sem.run_pure, Result.andThen_ok]
        exact fits_val h (by simp only [Rep]; exact ⟨cs.toList, by simp, h1, hz⟩)) parts vs.toList z zv.cells (by simpa using hl) (fun i p q h1 h2 => hp i p q h1 (by simpa using h2)) h1 h2
      simp only [Instr.build, Sem.run_bind, run_zeroValue' hi hzz, Result.andThen_ok, run_underlying hu, run_sizeOf' hie, hsz]
      cases hf : Instr.fill (fun i : Nat => some (i * sz, sz)) zv.cells vs.toList with
      | none => simp only [hf, Sem.run_bind, run_stuck, Result.andThen_halt] at key ⊢; exact key
      | some cs' => simp only [hf, Sem.run_bind, Sem.run_pure, Result.andThen_ok] at key ⊢; exact key
    · trivial
  · trivial
end
end Go.Rip

set_option linter.unusedSimpArgs false
set_option linter.unusedVariables false
set_option linter.loopingSimpArgs false
namespace Go.Rip
open Go.RowKit
section
variable {C : Cfg} {g : Gh} {σ : St} {w : World}

def zerosA : Nat → List AV → List AV
  | 0, _ => []
  | n + 1, z => z ++ zerosA n z
theorem zerosA_length (z : List AV) : ∀ n, (zerosA n z).length = n * z.length
  | 0 => by simp [zerosA]
  | n + 1 => by simp [zerosA, zerosA_length z n, Nat.add_mul]; omega
theorem zerosA_rep {z : List AV} {zv : Array Value} (hz : RepL g z zv.toList) : ∀ n, RepL g (zerosA n z) ((Array.range (n * zv.size)).map (zv[· % zv.size]!)).toList := fun n => by
  have hl : z.length = zv.size := by rw [← hz.length]; simp
  refine RepL.of_get (by simp [zerosA_length, hl]) fun i x v hx hv => ?_
  have key : ∀ n i x, (zerosA n z)[i]? = some x → z[i % zv.size]? = some x := fun n => by
    induction n with
    | zero => intro i x hx; simp [zerosA] at hx
    | succ n ih =>
      intro i x hx
      simp only [zerosA] at hx
      by_cases hi : i < z.length
      · rw [List.getElem?_append_left hi] at hx
        rw [Nat.mod_eq_of_lt (by omega)]; exact hx
      · rw [List.getElem?_append_right (by omega)] at hx
        have := ih _ _ hx
        rw [hl, ← Nat.mod_eq_sub_mod (by omega)] at this
        exact this
  have hx' := key n i x hx
  obtain ⟨u, hu, hr⟩ := hz.get hx'
  simp only [Array.toList_map, List.getElem?_map, Option.map_eq_some_iff] at hv
  obtain ⟨j, hj, rfl⟩ := hv
  have hj' : j = i := by
    rw [Array.getElem?_toList, Array.getElem?_range] at hj
    split at hj
    · simp at hj; exact hj.symm
    · cases hj
  subst hj'
  have hlt : j % zv.size < zv.size := by
    have := (List.getElem?_eq_some_iff.1 hu).1
    simpa using this
  rw [getElem!_pos zv _ hlt]
  rw [Array.getElem?_toList, getElem?_pos zv _ hlt] at hu
  cases hu
  exact hr

def buildSliceA (P : Program) (t : TypeId) (n : Nat) (mu : Bool) (parts : List (Nat × AV)) : OpR :=
  match sliceT P t with
  | some (e, sz) => match zeroC P e with
    | some z => .cond (n * sz ≤ 16777216) (fillA (fun i => some (i * sz, sz)) parts (zerosA n z) fun cs => .cond (cs.length = n * sz) (if mu then .newMs n sz e none cs else .val (.vec n .full cs)))
    | none => .bad
  | none => .bad
theorem buildSliceA_fits (h : Sim g σ w) {t : TypeId} {n : Nat} {mu : Bool} {parts : List (Nat × AV)} {vs : Array (Nat × Value)} (hl : vs.size = parts.length) (hp : ∀ (i : Nat) (p : Nat × AV) (q : Nat × Value), parts[i]? = some p → vs[i]? = some q → p.1 = q.1 ∧ Rep g p.2 q.2) :
    OpR.Fits C g σ (buildSliceA C.P t n mu parts) ((do let r ← Instr.buildSlice t n vs; pure (Next.value r) : Sem Next).run C.P w) := by
  unfold buildSliceA
  split
  · rename_i e sz hs
    split
    · rename_i z hz
      intro hn
      obtain ⟨i, zv, hu, hi, hzv, hzs, rfl, hpos, _, h1⟩ := sliceT_spec hs
      obtain ⟨i', zv', hi', hzz, hm⟩ := zeroC_spec hz
      rw [hi] at hi'; cases hi'
      rw [hzv] at hzz; cases hzz
      obtain ⟨h1, h2⟩ := mapM_ofScalar_rep (g := g) hm
      have hnot : ¬ (n * i.size > 2 ^ 24) := by omega
      have hzc := zerosA_rep (g := g) h1 n
      have key := fill_fits (C := C) (g := g) (σ := σ) (w := w) (place := fun j => some (j * i.size, i.size)) (k := fun cs => .cond (cs.length = n * i.size) (if mu then .newMs n i.size e none cs else .val (.vec n .full cs)))
        (kk := fun cs => do pure (.slice (some (← newRow e cs)) n n)) (S := "buildSlice: a part of the wrong size") (fun z cs hz hc1 => by
        intro hlen
        have hcs : cs.size = n * i.size := by rw [← Array.length_toList, hz.length, hlen]
        have hnm : n ≤ maxLen := by
          have : n ≤ n * i.size := Nat.le_mul_of_pos_right _ hpos
          unfold maxLen; omega
        simp only [newRow, Sem.run_bind, Sem.run_pure, run_newObj, Result.andThen_ok]
        split
        · have := fits_newMs (C := C) (del := none) (e := e) (sz := i.size) (n := n) (c := n) h (vs := cs.toList) (rest := []) hz hc1 (by simp) (by simp [hcs]) (Nat.le_refl _) hnm
          simpa using this
        · obtain ⟨g', hle, himm, _, _, hs'⟩ := h.newImm e cs cs.toList [] (by simp) hc1
          refine ⟨_, _, g', .inl rfl, hle, hs', ?_⟩
          simp only [Rep]
          exact ⟨w.heap.size, 0, n, cs.toList, rfl, Nat.le_refl _, hnm, rfl, himm, hz.mono hle⟩) parts vs.toList (zerosA n z) ((Array.range (n * zv.cells.size)).map (zv.cells[· % zv.cells.size]!)) (by simpa using hl) (fun i p q h1 h2 => hp i p q h1 (by simpa using h2)) hzc (by
          intro u hu
          simp only [Array.toList_map, List.mem_map] at hu
          obtain ⟨j, _, rfl⟩ := hu
          have hlt : j % zv.cells.size < zv.cells.size := Nat.mod_lt _ (by omega)
          rw [getElem!_pos zv.cells _ hlt]
          exact h2 _ (by simp))
      simp only [Instr.buildSlice, Sem.run_bind, run_underlying hu, run_sizeOf' hi, Result.andThen_ok, if_neg hnot, Sem.run_ite, run_zeroValue' hi hzv, Sem.run_pure]
      by_cases h0 : n * i.size = 0
      · have hn0 : n = 0 := by
          rcases Nat.mul_eq_zero.1 h0 with h | h
          · exact h
          · omega
        subst hn0
        simp only [Nat.zero_mul, if_true, Result.andThen_ok] at key ⊢
        have e1 : (Array.range 0).map ((#[] : Array Value)[· % (#[] : Array Value).size]!) = (Array.range 0).map (zv.cells[· % zv.cells.size]!) := by simp
        rw [e1]
        cases hf : Instr.fill (fun j => some (j * i.size, i.size)) ((Array.range 0).map (zv.cells[· % zv.cells.size]!)) vs.toList with
        | none => simp only [hf, Sem.run_bind, run_stuck, Result.andThen_halt] at key ⊢; exact key
        | some cs' => simp only [hf, Sem.run_bind, Sem.run_pure, Result.andThen_ok] at key ⊢; exact key
      · simp only [if_neg h0, Result.andThen_ok]
        rw [hzs] at key ⊢
        cases hf : Instr.fill (fun j => some (j * i.size, i.size)) ((Array.range (n * i.size)).map (zv.cells[· % i.size]!)) vs.toList with
        | none => simp only [hf, Sem.run_bind, run_stuck, Result.andThen_halt] at key ⊢; exact key
        | some cs' => simp only [hf, Sem.run_bind, Sem.run_pure, Result.andThen_ok] at key ⊢; exact key
    · trivial
  · trivial

/-! ### Maps (keys: integers, strings) -/
def mapT (P : Program) (t : TypeId) : Option (FK × TypeId) :=
  match P.underlying t with
  | some (.map k e) => match P.underlying k with
    | some (.int _) => some (.i, e)
    | some .string => some (.s, e)
    | _ => none
  | _ => none
def keyEqA : FK → AV → AV → Option Bool
  | .i, .int k a, .int k' b => if k = k' then some (a == b) else none
  | .s, .str a, .str b => some (a == b)
  | _, _, _ => none
/-- May a value be a key of the kind? -/
def keyIs : FK → AV → Bool
  | .i, .int _ _ => true
  | .s, .str _ => true
  | _, _ => false
def findA (fk : FK) (k : AV) : List AV → Nat → Option (Option Nat)
  | [], _ => some none
  | y :: ys, i => match keyEqA fk k y with
    | none => none
    | some b => if b = true then some (some i) else findA fk k ys (i + 1)
def insK (k v : AV) : List AV → List AV → List AV × List AV
  | [], _ => ([k], [v])
  | y :: ys, ws => if keyLt k y = true then (k :: y :: ys, v :: ws) else
    match ws with
    | [] => ([k], [v])
    | x :: xs => (y :: (insK k v ys xs).1, x :: (insK k v ys xs).2)
def mapUpdateA (P : Program) (t : TypeId) (m k v : AV) (σ : St) : OpR :=
  match mapT P t, m with
  | some (fk, _), .mp id => match σ.mp id with
    | some (ks, vs) => match findA fk k ks 0, keyIs fk k with
      | some none, true => .upd (.tup []) id (.mp (insK k v ks vs).1 (insK k v ks vs).2)
      | some (some i), true => .upd (.tup []) id (.mp ks (vs.set i v))
      | _, _ => .bad
    | none => .bad
  | _, _ => .bad
def entriesA (σ : St) : AV → Option (List AV × List AV)
  | .mp id => σ.mp id
  | .fmap ks vs => some (ks, vs)
  | .nilmap => some ([], [])
  | _ => none
def lookL (fk : FK) (k : AV) (dflt : AV) (ok : Bool) : List AV → List AV → OpR
  | y :: ys, v :: vs => match keyEqA fk k y with
    | none => .bad
    | some b => if b = true then .val (if ok then .tup [v, .bool true] else v) else lookL fk k dflt ok ys vs
  | _, _ => .val (if ok then .tup [dflt, .bool false] else dflt)
def zeroV (P : Program) (t : TypeId) : Option AV := ((P.info? t).bind (·.zero)).map cst
def lookupA (P : Program) (t : TypeId) (m k : AV) (ok : Bool) (σ : St) : OpR :=
  match mapT P t, entriesA σ m with
  | some (fk, e), some (ks, vs) => match zeroV P e, keyIs fk k with
    | some z, true => lookL fk k z ok ks vs
    | _, _ => .bad
  | _, _ => .bad

theorem mapT_spec {P : Program} {t e : TypeId} {fk : FK} (h : mapT P t = some (fk, e)) : ∃ k, P.underlying t = some (.map k e) ∧ ((fk = .i ∧ ∃ q, P.underlying k = some (.int q)) ∨ (fk = .s ∧ P.underlying k = some .string)) := by
  unfold mapT at h
  split at h
  · rename_i k e' hu
    split at h
    · rename_i q hq
      simp only [Option.some.injEq, Prod.mk.injEq] at h
      obtain ⟨rfl, rfl⟩ := h
      exact ⟨k, hu, .inl ⟨rfl, q, hq⟩⟩
    · rename_i hq
      simp only [Option.some.injEq, Prod.mk.injEq] at h
      obtain ⟨rfl, rfl⟩ := h
      exact ⟨k, hu, .inr ⟨rfl, hq⟩⟩
    · cases h
  · cases h

theorem keyEq_spec {P : Program} {k : TypeId} {fk : FK} {d : TypeDesc} (hd : P.underlying k = some d) (hk : (fk = .i ∧ ∃ q, d = .int q) ∨ (fk = .s ∧ d = .string)) {x y : AV} {u v : Value} {b : Bool} (hx : Rep g x u) (hy : Rep g y v) (h : keyEqA fk x y = some b) :
    Instr.sameNow d u v = some b := by
  rcases hk with ⟨rfl, q, rfl⟩ | ⟨rfl, rfl⟩ <;> cases x <;> cases y <;> simp only [keyEqA, reduceCtorEq] at h
  · split at h
    · rename_i e; subst e
      simp only [Rep] at hx hy; subst hx hy
      simp at h; subst h
      simp [Instr.sameNow]
    · cases h
  · simp only [Rep] at hx hy; subst hx hy
    simp only [Option.some.injEq] at h; subst h
    simp only [Instr.sameNow, beq_toListBytes, ByteArray.toList_eq, List.toList_toArray]

/-- What a search among entries comes to. -/
theorem findNow_spec {d : TypeDesc} {u : Value} : ∀ (es : List MapEntry) (i : Nat), (∀ e ∈ es, ∃ b, Instr.sameNow d u e.key = some b) →
    ((∀ e ∈ es, Instr.sameNow d u e.key = some false) ∧ Instr.findNow d u es i = some none) ∨
    (∃ j e, es[j]? = some e ∧ Instr.sameNow d u e.key = some true ∧ Instr.findNow d u es i = some (some (i + j, e.val)))
  | [], i, _ => .inl ⟨by simp, by simp [Instr.findNow]⟩
  | e :: es, i, h => by
    obtain ⟨b, hb⟩ := h e (by simp)
    cases b
    · rcases findNow_spec es (i + 1) (fun x hx => h x (by simp [hx])) with ⟨h1, h2⟩ | ⟨j, e', h1, h2, h3⟩
      · refine .inl ⟨fun x hx => ?_, by simp [Instr.findNow, hb, h2]⟩
        rcases List.mem_cons.1 hx with rfl | hx
        · exact hb
        · exact h1 x hx
      · exact .inr ⟨j + 1, e', by simpa using h1, h2, by simp [Instr.findNow, hb, h3]; omega⟩
    · exact .inr ⟨0, e, by simp, hb, by simp [Instr.findNow, hb]⟩
theorem keyEqA_true {fk : FK} {k y : AV} (h : keyEqA fk k y = some true) : k = y := by
  cases fk <;> cases k <;> cases y <;> simp only [keyEqA, reduceCtorEq] at h
  · split at h
    · rename_i e; subst e; simp at h; rw [h]
    · cases h
  · simp at h; rw [h]
theorem keyLt_self (k : AV) : keyLt k k = false := by
  cases k <;> simp [keyLt]
theorem keyLt_trans {a b c : AV} (h : keyLt a b = true) (h' : keyLt b c = true) : keyLt a c = true := by
  cases a <;> cases b <;> simp only [keyLt, Bool.false_eq_true] at h <;> cases c <;> simp only [keyLt, Bool.false_eq_true, Bool.and_eq_true, decide_eq_true_eq] at h h' ⊢
  · exact ⟨h.1.trans h'.1, by omega⟩
  · exact List.lt_trans h h'
theorem keyLt_or {fk : FK} {k y : AV} (h : keyEqA fk k y = some false) : keyLt k y = true ∨ keyLt y k = true := by
  cases fk <;> cases k <;> cases y <;> simp only [keyEqA, reduceCtorEq] at h
  · split at h
    · rename_i e; subst e; simp at h; simp [keyLt]; omega
    · cases h
  · simp at h
    simp only [keyLt, decide_eq_true_eq]
    rcases Classical.em ((_ : List UInt8) < _) with hl | hl
    · exact .inl hl
    · refine .inr ?_
      rcases Classical.em ((_ : List UInt8) < _) with hl2 | hl2
      · exact hl2
      · exact absurd (List.le_antisymm (List.not_lt.1 hl2) (List.not_lt.1 hl)) h
theorem keyEqA_all {fk : FK} {k y z : AV} (h : keyEqA fk k y = some true) (hz : keyLt y z = true ∨ keyLt z y = true) : ∃ b, keyEqA fk k z = some b := by
  have := keyEqA_true h
  subst this
  cases fk <;> cases k <;> cases z <;> simp [keyEqA, keyLt] at h hz ⊢
  rcases hz with ⟨e, _⟩ | ⟨e, _⟩
  · exact e
  · exact e.symm
theorem findA_spec {fk : FK} {k : AV} : ∀ {ks : List AV} {s : Nat} {r : Option Nat}, findA fk k ks s = some r →
    (r = none ∧ ∀ y ∈ ks, keyEqA fk k y = some false) ∨ (∃ i, r = some (s + i) ∧ ∃ y, ks[i]? = some y ∧ keyEqA fk k y = some true)
  | [], s, r, h => by simp only [findA, Option.some.injEq] at h; exact .inl ⟨h.symm, by simp⟩
  | y :: ys, s, r, h => by
    simp only [findA] at h
    split at h
    · cases h
    · rename_i b hb
      cases b
      · simp only [Bool.false_eq_true, if_false] at h
        rcases findA_spec h with ⟨h1, h2⟩ | ⟨i, h1, z, h2, h3⟩
        · refine .inl ⟨h1, fun z hz => ?_⟩
          rcases List.mem_cons.1 hz with rfl | hz
          · exact hb
          · exact h2 z hz
        · exact .inr ⟨i + 1, by rw [h1]; congr 1; omega, z, by simpa using h2, h3⟩
      · simp only [if_true, Option.some.injEq] at h
        exact .inr ⟨0, by rw [← h]; rfl, y, by simp, hb⟩
theorem sorted_inj {ks : List AV} (h : Sorted ks) {i j : Nat} {y : AV} (hi : ks[i]? = some y) (hj : ks[j]? = some y) : i = j := by
  have key : ∀ i j, i < j → ks[i]? = some y → ks[j]? = some y → False := fun i j hij hi hj => by
    obtain ⟨h1, h2⟩ := List.getElem?_eq_some_iff.1 hi
    obtain ⟨h3, h4⟩ := List.getElem?_eq_some_iff.1 hj
    have := List.pairwise_iff_getElem.1 h i j h1 h3 hij
    rw [h2, h4, keyLt_self] at this; cases this
  rcases Nat.lt_trichotomy i j with h | h | h
  · exact (key i j h hi hj).elim
  · exact h
  · exact (key j i h hj hi).elim
/-- A search among the entries, as the abstract one goes. -/
theorem find_rep {P : Program} {kt : TypeId} {fk : FK} {d : TypeDesc} (hd : P.underlying kt = some d) (hk : (fk = .i ∧ ∃ q, d = .int q) ∨ (fk = .s ∧ d = .string)) {x : AV} {u : Value} (hx : Rep g x u)
    {ks : List AV} {l es : List MapEntry} (hp : l.Perm es) (hs : Sorted ks) (hr : RepL g ks (l.map (·.key))) {r : Option Nat} (h : findA fk x ks 0 = some r) :
    (r = none ∧ (∀ y ∈ ks, keyEqA fk x y = some false) ∧ ∀ i, Instr.findNow d u es i = some none) ∨
    (∃ i j e, r = some i ∧ ks[i]? = some x ∧ l[i]? = some e ∧ es[j]? = some e ∧ Rep g x e.key ∧ ∀ s, Instr.findNow d u es s = some (some (s + j, e.val))) := by
  have mem : ∀ e ∈ es, ∃ i y, ks[i]? = some y ∧ l[i]? = some e ∧ Rep g y e.key := fun e he => by
    obtain ⟨i, hi⟩ := List.getElem?_of_mem (hp.mem_iff.2 he)
    have hlt : i < ks.length := by
      have h1 := (List.getElem?_eq_some_iff.1 hi).1
      have := hr.length
      simp at this; omega
    obtain ⟨v, hv, hvr⟩ := hr.get (i := i) (x := ks[i]) (List.getElem?_eq_getElem hlt)
    rw [List.getElem?_map, hi] at hv
    simp at hv
    subst hv
    exact ⟨i, ks[i], List.getElem?_eq_getElem hlt, hi, hvr⟩
  rcases findA_spec h with ⟨rfl, h1⟩ | ⟨i, rfl, y, h1, h2⟩
  · refine .inl ⟨rfl, h1, fun s => ?_⟩
    have hf : ∀ e ∈ es, Instr.sameNow d u e.key = some false := fun e he => by
      obtain ⟨i, y, hy, _, hyr⟩ := mem e he
      exact keyEq_spec (P := P) hd hk hx hyr (h1 y (List.mem_of_getElem? hy))
    rcases findNow_spec es s (fun e he => ⟨_, hf e he⟩) with ⟨_, h2⟩ | ⟨j, e, q1, q2, _⟩
    · exact h2
    · rw [hf e (List.mem_of_getElem? q1)] at q2; cases q2
  · have hxy := keyEqA_true h2
    subst hxy
    have all : ∀ z ∈ ks, ∃ b, keyEqA fk x z = some b := fun z hz => by
      obtain ⟨j, hj⟩ := List.getElem?_of_mem hz
      rcases Nat.lt_trichotomy i j with hij | hij | hij
      · obtain ⟨a1, a2⟩ := List.getElem?_eq_some_iff.1 h1
        obtain ⟨a3, a4⟩ := List.getElem?_eq_some_iff.1 hj
        have := List.pairwise_iff_getElem.1 hs i j a1 a3 hij
        rw [a2, a4] at this
        exact keyEqA_all h2 (.inl this)
      · subst hij; rw [h1] at hj; cases hj; exact ⟨_, h2⟩
      · obtain ⟨a1, a2⟩ := List.getElem?_eq_some_iff.1 h1
        obtain ⟨a3, a4⟩ := List.getElem?_eq_some_iff.1 hj
        have := List.pairwise_iff_getElem.1 hs j i a3 a1 hij
        rw [a2, a4] at this
        exact keyEqA_all h2 (.inr this)
    have same : ∀ e ∈ es, ∃ b, Instr.sameNow d u e.key = some b := fun e he => by
      obtain ⟨i, y, hy, _, hyr⟩ := mem e he
      obtain ⟨b, hb⟩ := all y (List.mem_of_getElem? hy)
      exact ⟨b, keyEq_spec (P := P) hd hk hx hyr hb⟩
    have hli : ∃ e0, l[i]? = some e0 ∧ Rep g x e0.key := by
      obtain ⟨v, hv, hvr⟩ := hr.get h1
      rw [List.getElem?_map, Option.map_eq_some_iff] at hv
      obtain ⟨e0, h3, rfl⟩ := hv
      exact ⟨e0, h3, hvr⟩
    obtain ⟨e0, he0, he0r⟩ := hli
    have h0s : Instr.sameNow d u e0.key = some true := keyEq_spec (P := P) hd hk hx he0r h2
    have h0m : e0 ∈ es := hp.mem_iff.1 (List.mem_of_getElem? he0)
    have pick : ∀ s, ∃ j, es[j]? = some e0 ∧ Instr.findNow d u es s = some (some (s + j, e0.val)) := fun s => by
      rcases findNow_spec es s same with ⟨q1, _⟩ | ⟨j, e, q1, q2, q3⟩
      · rw [q1 e0 h0m] at h0s; cases h0s
      · obtain ⟨i', y, hy, hl', hyr⟩ := mem e (List.mem_of_getElem? q1)
        obtain ⟨b, hb⟩ := all y (List.mem_of_getElem? hy)
        have hsb := keyEq_spec (P := P) hd hk hx hyr hb
        rw [q2] at hsb
        simp only [Option.some.injEq] at hsb
        subst hsb
        have hxy := keyEqA_true hb
        subst hxy
        have hii := sorted_inj hs h1 hy
        subst hii
        rw [he0] at hl'; cases hl'
        exact ⟨j, q1, q3⟩
    obtain ⟨j, hj, hjf⟩ := pick 0
    refine .inr ⟨i, j, e0, by rw [Nat.zero_add], h1, he0, hj, he0r, fun s => ?_⟩
    -- the index does not hang on where one begins to count
    have shift : ∀ (es : List MapEntry) (a b : Nat) j v, Instr.findNow d u es a = some (some (a + j, v)) → Instr.findNow d u es b = some (some (b + j, v)) := fun es => by
      induction es with
      | nil => intro a b j v h; simp [Instr.findNow] at h
      | cons e es ih =>
        intro a b j v h
        simp only [Instr.findNow] at h ⊢
        cases hsn : Instr.sameNow d u e.key with
        | none => rw [hsn] at h; cases h
        | some t =>
          rw [hsn] at h
          cases t
          · dsimp only at h ⊢
            have hle : ∀ (es : List MapEntry) (a : Nat) r v, Instr.findNow d u es a = some (some (r, v)) → a ≤ r := fun es => by
              induction es with
              | nil => intro a r v h; simp [Instr.findNow] at h
              | cons e es ih =>
                intro a r v h
                simp only [Instr.findNow] at h
                cases hsn : Instr.sameNow d u e.key with
                | none => rw [hsn] at h; cases h
                | some t =>
                  rw [hsn] at h
                  cases t
                  · have := ih _ _ _ h; omega
                  · simp at h; omega
            have h1 := hle _ _ _ _ h
            have := ih (a + 1) (b + 1) (j - 1) v (by rw [h]; congr 3; omega)
            rw [this]; congr 3; omega
          · simp at h ⊢; obtain ⟨h1, h2⟩ := h; exact ⟨by omega, h2⟩
    exact shift es 0 s j _ hjf

theorem perm_set {α : Type} {l m : List α} (h : l.Perm m) {i j : Nat} {e : α} (hi : l[i]? = some e) (hj : m[j]? = some e) (e' : α) : (l.set i e').Perm (m.set j e') := by
  obtain ⟨h1, h2⟩ := List.getElem?_eq_some_iff.1 hi
  obtain ⟨h3, h4⟩ := List.getElem?_eq_some_iff.1 hj
  have el : l = l.take i ++ e :: l.drop (i + 1) := by
    conv => lhs; rw [← List.take_append_drop i l, List.drop_eq_getElem_cons h1, h2]
  have em : m = m.take j ++ e :: m.drop (j + 1) := by
    conv => lhs; rw [← List.take_append_drop j m, List.drop_eq_getElem_cons h3, h4]
  rw [List.set_eq_take_append_cons_drop, if_pos h1, List.set_eq_take_append_cons_drop, if_pos h3]
  have hp : (l.take i ++ e :: l.drop (i + 1)).Perm (m.take j ++ e :: m.drop (j + 1)) := by rw [← el, ← em]; exact h
  have h5 := (List.perm_middle.symm.trans hp).trans List.perm_middle
  have h6 := List.Perm.cons_inv h5
  exact (List.perm_middle.trans (h6.cons e')).trans List.perm_middle.symm

theorem run_checkKey {P : Program} {k : TypeId} {d : TypeDesc} {em : Bool} (hd : P.underlying k = some d) (hk : (∃ q, d = .int q) ∨ d = .string) (n : Nat) (v : Value) : (Instr.checkKey em (n + 1) k v).run P w = .ok () w := by
  rcases hk with ⟨q, rfl⟩ | rfl <;> simp [Instr.checkKey, run_underlying hd]

theorem RepL.set : ∀ {l : List AV} {vs : List Value} {x : AV} {u : Value} (i : Nat), RepL g l vs → Rep g x u → RepL g (l.set i x) (vs.set i u)
  | [], _, _, _, _, h, _ => by simp only [RepL] at h; subst h; simp [RepL]
  | y :: ys, _, x, u, 0, h, hx => by
    simp only [RepL] at h
    obtain ⟨v, vs, rfl, h1, h2⟩ := h
    simp only [List.set_cons_zero, RepL]
    exact ⟨u, vs, rfl, hx, h2⟩
  | y :: ys, _, x, u, i + 1, h, hx => by
    simp only [RepL] at h
    obtain ⟨v, vs, rfl, h1, h2⟩ := h
    simp only [List.set_cons_succ, RepL]
    exact ⟨v, _, rfl, h1, RepL.set i h2 hx⟩

theorem insK_rep {k v : AV} {e : MapEntry} (hk : Rep g k e.key) (hv : Rep g v e.val) : ∀ (ks vs : List AV) (l : List MapEntry), RepL g ks (l.map (·.key)) → RepL g vs (l.map (·.val)) →
    ∃ l' : List MapEntry, l'.Perm (e :: l) ∧ RepL g (insK k v ks vs).1 (l'.map (·.key)) ∧ RepL g (insK k v ks vs).2 (l'.map (·.val))
  | [], vs, l, h1, h2 => by
    simp only [RepL, List.map_eq_nil_iff] at h1
    subst h1
    exact ⟨[e], List.Perm.refl _, by simp only [insK, List.map_cons, List.map_nil, RepL]; exact ⟨_, _, rfl, hk, rfl⟩, by simp only [insK, List.map_cons, List.map_nil, RepL]; exact ⟨_, _, rfl, hv, rfl⟩⟩
  | y :: ks, vs, [], h1, h2 => by simp [RepL] at h1
  | y :: ks, [], f :: l, h1, h2 => by simp [RepL] at h2
  | y :: ks, x :: vs, f :: l, h1, h2 => by
    simp only [insK]
    by_cases hlt : keyLt k y = true
    · rw [if_pos hlt]
      exact ⟨e :: f :: l, List.Perm.refl _, by rw [List.map_cons]; simp only [RepL] at h1 ⊢; exact ⟨_, _, rfl, hk, h1⟩, by rw [List.map_cons]; simp only [RepL] at h2 ⊢; exact ⟨_, _, rfl, hv, h2⟩⟩
    · rw [if_neg hlt]
      simp only [RepL, List.map_cons, List.cons.injEq] at h1 h2
      obtain ⟨_, _, ⟨rfl, rfl⟩, hy, h1⟩ := h1
      obtain ⟨_, _, ⟨rfl, rfl⟩, hx, h2⟩ := h2
      obtain ⟨l', h3, h4, h5⟩ := insK_rep hk hv ks vs l h1 h2
      exact ⟨f :: l', ((h3.cons f).trans (List.Perm.swap e f l)), by simp only [List.map_cons, RepL]; exact ⟨_, _, rfl, hy, h4⟩, by simp only [List.map_cons, RepL]; exact ⟨_, _, rfl, hx, h5⟩⟩
theorem insK_mem {k v : AV} : ∀ (ks vs : List AV) (z : AV), z ∈ (insK k v ks vs).1 → z = k ∨ z ∈ ks
  | [], vs, z, h => by simp [insK] at h; exact .inl h
  | y :: ks, vs, z, h => by
    simp only [insK] at h
    split at h
    · simpa using h
    · split at h
      · simp at h; exact .inl h
      · rename_i x xs
        simp only [List.mem_cons] at h ⊢
        rcases h with h | h
        · exact .inr (.inl h)
        · rcases insK_mem ks xs z h with h | h
          · exact .inl h
          · exact .inr (.inr h)
theorem insK_sorted {k v : AV} : ∀ (ks vs : List AV), Sorted ks → (∀ y ∈ ks, keyLt k y = true ∨ keyLt y k = true) → Sorted (insK k v ks vs).1
  | [], vs, h1, h2 => by simp [insK, Sorted]
  | y :: ks, vs, h1, h2 => by
    unfold Sorted at h1 ⊢
    rw [List.pairwise_cons] at h1
    simp only [insK]
    split
    · rename_i hlt
      rw [List.pairwise_cons, List.pairwise_cons]
      refine ⟨fun z hz => ?_, h1⟩
      rcases List.mem_cons.1 hz with rfl | hz
      · exact hlt
      · exact keyLt_trans hlt (h1.1 z hz)
    · rename_i hlt
      split
      · simp
      · rename_i x xs
        rw [List.pairwise_cons]
        refine ⟨fun z hz => ?_, insK_sorted ks xs h1.2 fun z hz => h2 z (by simp [hz])⟩
        rcases insK_mem ks xs z hz with rfl | hz
        · rcases h2 y (by simp) with h | h
          · exact absurd h hlt
          · exact h
        · exact h1.1 z hz

theorem BornOK.push {es : Array MapEntry} {clock : Nat} (h : BornOK es clock) (k v : Value) : BornOK (es.push ⟨k, v, clock⟩) (clock + 1) := by
  obtain ⟨h1, h2⟩ := h
  refine ⟨?_, fun e he => ?_⟩
  · simp only [Array.toList_push, List.map_append, List.map_cons, List.map_nil]
    rw [List.nodup_append]
    refine ⟨h1, by simp, fun a ha b hb => ?_⟩
    simp at hb
    subst hb
    obtain ⟨e, he, rfl⟩ := List.mem_map.1 ha
    exact Nat.ne_of_lt (h2 e he)
  · simp only [Array.toList_push, List.mem_append, List.mem_singleton] at he
    rcases he with he | rfl
    · have := h2 e he; omega
    · simp
theorem modify_toList_set {es : Array MapEntry} {j : Nat} {e : MapEntry} (hj : es.toList[j]? = some e) (f : MapEntry → MapEntry) : (es.modify j f).toList = es.toList.set j (f e) := by
  apply List.ext_getElem?
  intro i
  simp only [Array.toList_modify, List.getElem?_modify, List.getElem?_set]
  by_cases hij : j = i
  · subst hij
    have hlt := (List.getElem?_eq_some_iff.1 hj).1
    simp only [if_true, hj, if_pos hlt]; rfl
  · simp only [if_neg hij]
    cases es.toList[i]? <;> rfl
theorem BornOK.modify {es es' : Array MapEntry} {clock : Nat} (h : BornOK es clock) {j : Nat} {e e' : MapEntry} (hj : es.toList[j]? = some e) (hb : e'.born = e.born) (he : es'.toList = es.toList.set j e') : BornOK es' clock := by
  have hm : es'.toList.map (·.born) = es.toList.map (·.born) := by
    rw [he, List.map_set, hb]
    apply List.ext_getElem?
    intro i
    rw [List.getElem?_set]
    split
    · rename_i hij
      subst hij
      rw [List.getElem?_map, hj]
      have hlt := (List.getElem?_eq_some_iff.1 hj).1
      simp at hlt ⊢; exact hlt
    · rfl
  refine ⟨by rw [hm]; exact h.1, fun x hx => ?_⟩
  have : x.born ∈ es'.toList.map (·.born) := List.mem_map_of_mem hx
  rw [hm] at this
  obtain ⟨y, hy, hy2⟩ := List.mem_map.1 this
  rw [← hy2]; exact h.2 y hy

theorem mapUpdateA_fits (h : Sim g σ w) {t : TypeId} {m k x : AV} {vm vk vx : Value} (hm : Rep g m vm) (hk : Rep g k vk) (hx : Rep g x vx) :
    OpR.Fits C g σ (mapUpdateA C.P t m k x σ) ((do Instr.mapUpdate t vm vk vx; pure Next.skip : Sem Next).run C.P w) := by
  unfold mapUpdateA
  split
  · rename_i fk e id ht
    split
    · rename_i ks vs hmp
      obtain ⟨kt, hu, hkt⟩ := mapT_spec ht
      obtain ⟨d, hd, hkd⟩ : ∃ d, C.P.underlying kt = some d ∧ ((fk = .i ∧ ∃ q, d = .int q) ∨ (fk = .s ∧ d = .string)) := by
        rcases hkt with ⟨rfl, q, hq⟩ | ⟨rfl, hq⟩
        · exact ⟨_, hq, .inl ⟨rfl, q, rfl⟩⟩
        · exact ⟨_, hq, .inr ⟨rfl, rfl⟩⟩
      have hkd' : (∃ q, d = .int q) ∨ d = .string := hkd.imp (·.2) (·.2)
      simp only [Rep] at hm
      obtain ⟨r, hr, rfl⟩ := hm
      obtain ⟨r', es, clock, q1, q2, q3, qb, ⟨l, q4, q5, q6, q7⟩, q8⟩ := h.mp id _ hmp
      rw [hr] at q1; cases q1
      have hget : (getObj r).run C.P w = .ok (.map es clock) w := by simp [getObj, Sem.run, q3]
      have hck := run_checkKey (P := C.P) (w := w) (em := false) hd hkd' 9999 vk
      have hset : ∀ o, (setObj r o).run C.P w = .ok () { w with heap := w.heap.setIfInBounds r o } := fun o => by simp [setObj, Sem.run, q3]
      split
      · rename_i hf hki
        rcases find_rep (P := C.P) hd hkd hk q4 q5 q6 hf with ⟨_, ha, hn⟩ | ⟨i, _, _, he, _⟩
        · simp only [Instr.mapUpdate, Sem.run_bind, run_underlying hu, Result.andThen_ok, hget, hck, Instr.findKey, run_underlying hd, hn, Sem.run_pure, hset]
          obtain ⟨l', p1, p2, p3⟩ := insK_rep (e := ⟨vk, vx, clock⟩) hk hx ks vs l q6 q7
          refine ⟨undef, _, g, .inr ⟨rfl, rfl⟩, Gh.Le.refl g, h.setMap hmp (kv' := insK k x ks vs) hr q3 ⟨l', ?_, ?_, p2, p3⟩ (qb.push vk vx), by simp only [Rep]; exact ⟨[], rfl, by simp [RepL]⟩⟩
          · rw [Array.toList_push]
            exact (p1.trans (q4.cons _)).trans (List.perm_append_singleton _ _).symm
          · exact insK_sorted ks vs q5 fun y hy => keyLt_or (ha y hy)
        · cases he
      · rename_i i hf hki
        rcases find_rep (P := C.P) hd hkd hk q4 q5 q6 hf with ⟨he, _⟩ | ⟨i', j, e, he, hki', hli, hej, her, hn⟩
        · cases he
        · cases he
          have hn0 := hn 0
          rw [Nat.zero_add] at hn0
          have hlt : j < es.size := by
            have := (List.getElem?_eq_some_iff.1 hej).1
            simpa using this
          have hej' : es[j]? = some e := by rw [← Array.getElem?_toList]; exact hej
          have hsame : Instr.sameBits 10000 e.key vk = true := by
            rcases hkd with ⟨rfl, _⟩ | ⟨rfl, _⟩ <;> cases k <;> simp only [keyIs, Bool.false_eq_true] at hki
            · simp only [Rep] at hk her; rw [hk, her]; simp [Instr.sameBits]
            · simp only [Rep] at hk her; rw [hk, her]; simp [Instr.sameBits, beq_toListBytes]
          have hsb : (Instr.keyThatStays e.key vk).run C.P w = .ok vk w := by simp [Instr.keyThatStays, hsame]
          have hkey : ((es[j]?).map (·.key)).getD vk = e.key := by rw [hej']; rfl
          simp only [Instr.mapUpdate, Sem.run_bind, run_underlying hu, Result.andThen_ok, hget, hck, Instr.findKey, run_underlying hd, hn0, Sem.run_pure, hset, hkey, hsb]
          have hmod := modify_toList_set hej (fun e => { e with key := vk, val := vx })
          refine ⟨undef, _, g, .inr ⟨rfl, rfl⟩, Gh.Le.refl g, h.setMap hmp (kv' := (ks, vs.set i x)) hr q3 ⟨l.set i { e with key := vk, val := vx }, ?_, q5, ?_, ?_⟩ (qb.modify (e' := { e with key := vk, val := vx }) hej rfl hmod), by simp only [Rep]; exact ⟨[], rfl, by simp [RepL]⟩⟩
          · rw [hmod]; exact perm_set q4 hli hej _
          · rw [List.map_set]
            have := q6.set i hk
            have e1 : ks.set i k = ks := by
              apply List.ext_getElem?
              intro a
              rw [List.getElem?_set]
              split
              · rename_i ha; subst ha
                split
                · exact hki'.symm
                · rename_i hn; exact absurd (List.getElem?_eq_some_iff.1 hki').1 hn
              · rfl
            rw [e1] at this; exact this
          · rw [List.map_set]; exact q7.set i hx
      · trivial
    · trivial
  · trivial

theorem lookL_spec {fk : FK} {k z : AV} {ok : Bool} : ∀ (ks vs : List AV) (s : Nat), ks.length = vs.length → lookL fk k z ok ks vs = (match findA fk k ks s with
    | none => .bad
    | some none => .val (if ok then .tup [z, .bool false] else z)
    | some (some i) => .val (if ok then .tup [vs.getD (i - s) z, .bool true] else vs.getD (i - s) z))
  | [], [], s, _ => by simp [lookL, findA]
  | [], _ :: _, s, h => by simp at h
  | _ :: _, [], s, h => by simp at h
  | y :: ks, v :: vs, s, h => by
    simp only [lookL, findA]
    cases hb : keyEqA fk k y with
    | none => rfl
    | some b =>
      cases b
      · simp only [Bool.false_eq_true, if_false]
        rw [lookL_spec ks vs (s + 1) (by simpa using h)]
        cases hf : findA fk k ks (s + 1) with
        | none => rfl
        | some r =>
          cases r with
          | none => rfl
          | some i =>
            rcases findA_spec hf with ⟨h1, _⟩ | ⟨i', h1, _⟩
            · cases h1
            · cases h1
              have e1 : s + 1 + i' - (s + 1) = i' := by omega
              have e2 : s + 1 + i' - s = i' + 1 := by omega
              simp only [e1, e2, List.getD_cons_succ]
      · simp only [if_true, Nat.sub_self, List.getD_cons_zero]

theorem lookupA_fits (h : Sim g σ w) {t : TypeId} {m k : AV} {vm vk : Value} {ok : Bool} (hm : Rep g m vm) (hk : Rep g k vk) :
    OpR.Fits C g σ (lookupA C.P t m k ok σ) ((do let r ← Instr.lookup t vm vk ok; pure (Next.value r) : Sem Next).run C.P w) := by
  unfold lookupA
  split
  · rename_i fk e ks vs ht he
    split
    · rename_i z hz hki
      obtain ⟨kt, hu, hkt⟩ := mapT_spec ht
      obtain ⟨d, hd, hkd⟩ : ∃ d, C.P.underlying kt = some d ∧ ((fk = .i ∧ ∃ q, d = .int q) ∨ (fk = .s ∧ d = .string)) := by
        rcases hkt with ⟨rfl, q, hq⟩ | ⟨rfl, hq⟩
        · exact ⟨_, hq, .inl ⟨rfl, q, rfl⟩⟩
        · exact ⟨_, hq, .inr ⟨rfl, rfl⟩⟩
      have hkd' : (∃ q, d = .int q) ∨ d = .string := hkd.imp (·.2) (·.2)
      obtain ⟨i, vz, hi, hzz, hzr⟩ : ∃ i vz, C.P.info? e = some i ∧ i.zero = some vz ∧ cst vz = z := by
        unfold zeroV at hz
        cases hi : C.P.info? e with
        | none => simp [hi] at hz
        | some i =>
          cases hzv : i.zero with
          | none => simp [hi, hzv] at hz
          | some vz => simp [hi, hzv] at hz; exact ⟨i, vz, rfl, hzv, hz⟩
      have hzrep : Rep g z vz := by rw [← hzr]; exact cst_rep vz
      obtain ⟨es, hes, l, hp, hsrt, h1, h2⟩ : ∃ es : Array MapEntry, ((vm = .map none ∧ es = #[]) ∨ ∃ r clock, vm = .map (some r) ∧ w.heap[r]? = some (Obj.map es clock)) ∧ MapOK g ks vs es := by
        cases m <;> simp only [entriesA, reduceCtorEq, Option.some.injEq, Prod.mk.injEq] at he
        · obtain ⟨rfl, rfl⟩ := he
          simp only [Rep] at hm; subst hm
          exact ⟨#[], .inl ⟨rfl, rfl⟩, [], List.Perm.refl _, by simp [Sorted], by simp [RepL], by simp [RepL]⟩
        · simp only [Rep] at hm
          obtain ⟨r, hr, rfl⟩ := hm
          obtain ⟨r', es, clock, q1, q2, q3, _, q4, _⟩ := h.mp _ _ he
          rw [hr] at q1; cases q1
          exact ⟨es, .inr ⟨r, clock, rfl, q3⟩, q4⟩
        · obtain ⟨rfl, rfl⟩ := he
          simp only [Rep] at hm
          obtain ⟨r, es, clock, l, rfl, hr, q0, q1, q2, q3⟩ := hm
          exact ⟨es, .inr ⟨r, clock, rfl, (h.imap r es clock hr).1⟩, l, q0, q1, q2, q3⟩
      have hlen : ks.length = vs.length := by
        have a := h1.length
        have b := h2.length
        simp at a b; omega
      rw [lookL_spec ks vs 0 hlen]
      cases hf : findA fk k ks 0 with
      | none => trivial
      | some r =>
        have hck := run_checkKey (P := C.P) (w := w) (em := es.isEmpty) hd hkd' 9999 vk
        have key := find_rep (P := C.P) hd hkd hk hp hsrt h1 hf
        have fin : ∀ q : Option (Nat × Value), Instr.findNow d vk es.toList 0 = some q → (Instr.lookup t vm vk ok).run C.P w = (match q with
            | some (_, v) => .ok (if ok then .tuple #[v, .bool true] else v) w
            | none => .ok (if ok then .tuple #[vz, .bool false] else vz) w) := fun q hq => by
          rcases hes with ⟨rfl, rfl⟩ | ⟨r, clock, rfl, hh⟩
          · simp only [Instr.lookup, Sem.run_bind, run_underlying hu, Result.andThen_ok, Sem.run_pure, hck, Instr.findKey, run_underlying hd, hq]
            cases q with
            | none => simp only [Sem.run_pure, Result.andThen_ok, Sem.run_bind, run_zeroValue' hi hzz]
            | some p => rfl
          · have hget : (getObj r).run C.P w = .ok (Obj.map es clock) w := by simp [getObj, Sem.run, hh]
            simp only [Instr.lookup, Sem.run_bind, run_underlying hu, Result.andThen_ok, Sem.run_pure, hget, hck, Instr.findKey, run_underlying hd, hq]
            cases q with
            | none => simp only [Sem.run_pure, Result.andThen_ok, Sem.run_bind, run_zeroValue' hi hzz]
            | some p => rfl
        rcases key with ⟨rfl, _, hn⟩ | ⟨i, j, e, rfl, _, hli, _, _, hn⟩
        · simp only [Sem.run_bind, fin _ (hn 0), Result.andThen_ok, Sem.run_pure]
          refine fits_val h ?_
          cases ok
          · exact hzrep
          · simp only [if_true, Rep]
            exact ⟨[vz, .bool false], rfl, by simp only [RepL]; exact ⟨_, _, rfl, hzrep, _, _, rfl, by simp only [Rep], rfl⟩⟩
        · simp only [Sem.run_bind, fin _ (hn 0), Result.andThen_ok, Sem.run_pure, Nat.sub_zero]
          have hv : Rep g (vs.getD i z) e.val := by
            have hlt : i < vs.length := by
              have a := (List.getElem?_eq_some_iff.1 hli).1
              have b := h2.length
              simp at b; omega
            obtain ⟨v, hv, hvr⟩ := h2.get (i := i) (x := vs[i]) (List.getElem?_eq_getElem hlt)
            rw [List.getElem?_map, hli] at hv
            simp at hv
            subst hv
            have : vs.getD i z = vs[i] := by simp [List.getD_eq_getElem?_getD, hlt]
            rw [this]; exact hvr
          refine fits_val h ?_
          cases ok
          · exact hv
          · simp only [if_true, Rep]
            exact ⟨[e.val, .bool true], rfl, by simp only [RepL]; exact ⟨_, _, rfl, hv, _, _, rfl, by simp only [Rep], rfl⟩⟩
    · trivial
  · trivial

theorem newMp_fits (h : Sim g σ w) : OpR.Fits C g σ .newMp (.ok (.value (.map (some w.heap.size))) (w.alloc (.map #[] 0))) := by
  obtain ⟨b, g', h1, h2, h3, h4⟩ := h.newThing (.map #[] 0) 0 0 (.mp [] []) fun g' hle hi hm => ⟨#[], 0, heap_alloc_new w _, ⟨by simp, by simp⟩, ⟨[], List.Perm.refl _, by simp [Sorted], by simp [RepL], by simp [RepL]⟩, hm⟩
  exact ⟨_, _, g', b, rfl, h1, h2, h4, by simp only [NV.at, Rep]; exact ⟨_, Gh.mp_iff.2 ⟨_, h3, rfl⟩, rfl⟩⟩
end
end Go.Rip

set_option linter.unusedSimpArgs false
set_option linter.unusedVariables false
set_option linter.loopingSimpArgs false
namespace Go.Rip
open Go.RowKit

/-! ### An operation -/
def pickA (c a b : AV) : OpR :=
  match c with
  | .bool t => .val (if t = true then a else b)
  | _ => .bad
def fieldVT (P : Program) (s f : Nat) : Option (Nat × Bool × Nat) :=
  match P.underlying s with
  | some (.struct fields) => match fields[f]? with
    | some x => match varT P x.type with
      | some (b, n) => some (x.offset, b, n)
      | none => none
    | none => none
  | _ => none
def fieldValA (P : Program) (s : TypeId) (x : AV) (f : Nat) : OpR :=
  match fieldVT P s f, x with
  | some (o, true, n), .agg l => .cond (o + n ≤ l.length) (.val (.agg ((l.drop o).take n)))
  | some (o, false, _), .agg l => headR (l.drop o)
  | _, _ => .bad
def fnA (P : Program) (f : AV) (args : List AV) : OpR :=
  match f with
  | .func (.func g) first cap => if entersT P g = true then .enter g (first ++ args ++ cap) else .bad
  | .yld o => .yield o args
  | _ => .bad
/-! Ranges over maps that never change -/
def rangeA (P : Program) (t : TypeId) (m : AV) : OpR :=
  match mapT P t, m with
  | some _, .fmap ks vs => .new .it none (.iter (ks.zip vs) none)
  | _, _ => .bad
/-- Each entry with the others. -/
def picks : List (AV × AV) → List ((AV × AV) × List (AV × AV))
  | [] => []
  | x :: xs => (x, xs) :: (picks xs).map fun p => (p.1, x :: p.2)
def nextA (i : AV) (σ : St) : OpR :=
  match i with
  | .it o => match σ.iter o with
    | some ([], _) => .val (.tup [.bool false])
    | some (x :: xs, _) => .anyOf o ((picks (x :: xs)).map fun p => (.tup [.bool true, p.1.1, p.1.2], .iter p.2 (some p.1)))
    | none => .bad
  | _ => .bad
def entryA (i : AV) (σ : St) : OpR :=
  match i with
  | .it o => match σ.iter o with
    | some (_, some kv) => .val (.tup [kv.1, kv.2])
    | _ => .bad
  | _ => .bad
def assertT (P : Program) (t : TypeId) : Option AV :=
  match P.underlying t with
  | some (.interface _) => none
  | some _ => zeroV P t
  | none => none
def typeAssertA (P : Program) (x : AV) (t : TypeId) (ok : Bool) : OpR :=
  match assertT P t, x with
  | some z, .iface u v => if u = t then .val (if ok then .tup [v, .bool true] else v) else if ok then .val (.tup [z, .bool false]) else .bad
  | some z, .niliface => if ok then .val (.tup [z, .bool false]) else .bad
  | _, _ => .bad
def makeSliceA (P : Program) (t : TypeId) (mu : Bool) (l c : AV) : OpR :=
  match sliceT P t, l, c with
  | some (e, sz), .int _ l, .int _ c => match zeroC P e with
    | some z => .cond (0 ≤ l ∧ l = c ∧ c ≤ 65536) (if mu then .newMs l.toNat sz e none (zerosA l.toNat z) else .newTok l.toNat (zerosA l.toNat z) none ⟨l.toNat, e, sz⟩)
    | none => .bad
  | _, _, _ => .bad
def clearA (P : Program) (t : TypeId) (x : AV) (σ : St) : OpR :=
  match sliceT P t, x with
  | some (e, sz), .ms b off n esz _ => match σ.box b, zeroC P e with
    | some l, some z => .cond (esz = sz ∧ off + n * sz ≤ l.length) (.upd (.tup []) b (.box (spliceL l off (zerosA n z))))
    | _, _ => .bad
  | _, _ => .bad
/-- 'append(s, make([]T, n)...)', as the translator gives it: the second argument is an int. -/
def growT (P : Program) (t u : TypeId) : Option (TypeId × Nat × List AV) :=
  match P.underlying u with
  | some (.int _) => match sliceT P t with
    | some (e, sz) => match zeroC P e with
      | some z => some (e, sz, z)
      | none => none
    | none => none
  | _ => none
def growR (q : TypeId × Nat × List AV) (mu : Bool) (s y : AV) : OpR :=
  match s, y with
  | .nilslice, .int _ n => .cond (0 < n ∧ n ≤ 65536) (if mu then .newMs n.toNat q.2.1 q.1 none (zerosA n.toNat q.2.2) else .newTok n.toNat (zerosA n.toNat q.2.2) none ⟨n.toNat, q.1, q.2.1⟩)
  | _, _ => .bad
def capA (st : Option (TypeId × Nat)) (x : AV) : OpR := match st, x with
  | some _, .nilslice => .val (.int .i64 0)
  | _, _ => .bad
def appendB (P : Program) (t u : TypeId) (mu : Bool) (s y : AV) (σ : St) : OpR :=
  match growT P t u with
  | some q => growR q mu s y
  | none => appendA P t u mu s y σ
def callA (C : Cfg) (mu : Bool) (c : Call) (ρ : Env) (σ : St) : OpR :=
  match c.callee, c.argTypes.toList, c.args.toList with
  | .value f, _, args => fnA C.P (ρ.ev C f) (args.map (ρ.ev C))
  | .builtin .len, [t], [x] => lenA C.P t (ρ.ev C x) σ
  | .builtin .append, [t, u], [s, y] => appendB C.P t u mu (ρ.ev C s) (ρ.ev C y) σ
  | .builtin .cap, [t], [x] => capA (sliceT C.P t) (ρ.ev C x)
  | .builtin .min, _, [x, y] => minA (ρ.ev C x) (ρ.ev C y)
  | .builtin .max, _, [x, y] => maxA (ρ.ev C x) (ρ.ev C y)
  | .builtin .clear, [t], [x] => clearA C.P t (ρ.ev C x) σ
  | _, _, _ => .bad
def opR (C : Cfg) (mu : Bool) (o : Op) (ρ : Env) (σ : St) : OpR :=
  match o with
  | .move x | .assign x => .val (ρ.ev C x)
  | .pick c a b => pickA (ρ.ev C c) (ρ.ev C a) (ρ.ev C b)
  | .alloc t => allocA C.P t
  | .box _ x => boxA (ρ.ev C x)
  | .build t parts => buildA C.P t (evParts C ρ parts)
  | .buildSlice t n parts => buildSliceA C.P t n mu (evParts C ρ parts)
  | .insert t m k v | .mapUpdate t m k v => mapUpdateA C.P t (ρ.ev C m) (ρ.ev C k) (ρ.ev C v) σ
  | .load t a => loadA C.P t (ρ.ev C a) σ
  | .store t a v => storeA C.P t (ρ.ev C a) (ρ.ev C v) σ
  | .nilCheck x => nilCheckA (ρ.ev C x)
  | .binOp op t x y _ => binL C.P op t (isLit x || isLit y) (ρ.ev C x) (ρ.ev C y)
  | .unOp op _ x => unA op (ρ.ev C x)
  | .convert s d x => convA C.P s d (ρ.ev C x)
  | .makeInterface t x => makeIfaceA C.P t (ρ.ev C x)
  | .makeFunc fn first cap => .val (.func fn (first.toList.map (ρ.ev C)) (cap.toList.map (ρ.ev C)))
  | .makeMap _ none => .newMp
  | .slice t x lo hi none => sliceA C.P t (ρ.ev C x) (lo.map (ρ.ev C)) (hi.map (ρ.ev C))
  | .fieldAddr s x f => fieldAddrA C.P s (ρ.ev C x) f
  | .field s x f => fieldValA C.P s (ρ.ev C x) f
  | .indexAddr t x i => indexAddrA C.P t (ρ.ev C x) (ρ.ev C i)
  | .index t x i => indexA C.P t (ρ.ev C x) (ρ.ev C i)
  | .lookup t m k ok => lookupA C.P t (ρ.ev C m) (ρ.ev C k) ok σ
  | .extract t i => extractA (ρ.ev C t) i
  | .panic x => panicA (ρ.ev C x)
  | .range t m => rangeA C.P t (ρ.ev C m)
  | .typeAssert x _ t ok => typeAssertA C.P (ρ.ev C x) t ok
  | .makeSlice t l c => makeSliceA C.P t mu (ρ.ev C l) (ρ.ev C c)
  | .next i false => nextA (ρ.ev C i) σ
  | .entry i => entryA (ρ.ev C i) σ
  | .call c => callA C mu c ρ σ
  | _ => .bad

section
variable {C : Cfg} {g : Gh} {σ : St} {w : World}

theorem fieldValA_fits (h : Sim g σ w) {s f : Nat} {x : AV} {v : Value} (hx : Rep g x v) : OpR.Fits C g σ (fieldValA C.P s x f) ((do let r ← Instr.field s v f; pure (Next.value r) : Sem Next).run C.P w) := by
  unfold fieldValA
  have key : ∀ {o b n}, fieldVT C.P s f = some (o, b, n) → ∃ fs y i d, C.P.underlying s = some (.struct fs) ∧ fs[f]? = some y ∧ y.offset = o ∧ C.P.info? y.type = some i ∧ C.P.underlying y.type = some d ∧ aggD d = b ∧ i.size = n := fun {o b n} hf => by
    unfold fieldVT at hf
    split at hf
    · rename_i fs hu
      split at hf
      · rename_i y hy
        split at hf
        · rename_i b' n' hv
          simp only [Option.some.injEq, Prod.mk.injEq] at hf
          obtain ⟨rfl, rfl, rfl⟩ := hf
          obtain ⟨i, d, h1, h2, h3, h4⟩ := varT_spec hv
          exact ⟨fs, y, i, d, hu, hy, rfl, h1, h2, h3, h4⟩
        · cases hf
      · cases hf
    · cases hf
  split
  · rename_i o n l hf
    obtain ⟨fs, y, i, d, hu, hy, rfl, hi, hd, ha, rfl⟩ := key hf
    intro hle
    simp only [Rep] at hx
    obtain ⟨vs, rfl, h1, hr⟩ := hx
    simp only [Instr.field, Sem.run_bind, run_underlying hu, Result.andThen_ok, hy, asAgg, Sem.run_pure, part, run_isAgg hd, ha, if_true, Sem.run_ite, run_sizeOf' hi]
    refine fits_val h ?_
    simp only [Rep]
    refine ⟨(vs.drop y.offset).take i.size, ?_, fun u hu => h1 u (List.mem_of_mem_drop (List.mem_of_mem_take hu)), (hr.drop _).take _⟩
    congr 1
    apply Array.ext'
    simp [List.extract_eq_take_drop]
  · rename_i o n l hf
    obtain ⟨fs, y, i, d, hu, hy, rfl, hi, hd, ha, rfl⟩ := key hf
    simp only [Rep] at hx
    obtain ⟨vs, rfl, h1, hr⟩ := hx
    cases hl : l.drop y.offset with
    | nil => trivial
    | cons z zs =>
      have hz : l[y.offset]? = some z := by
        have := congrArg (fun l => l[0]?) hl
        simpa using this
      obtain ⟨u, hu', hzu⟩ := hr.get hz
      have e : vs.toArray[y.offset]? = some u := by simpa using hu'
      simp only [Instr.field, Sem.run_bind, run_underlying hu, Result.andThen_ok, hy, asAgg, Sem.run_pure, part, run_isAgg hd, ha, Bool.false_eq_true, if_false, Sem.run_ite, e]
      exact fits_val h hzu
  · trivial

theorem evs_rep (hG : GlobOK C g) {ρ : Env} {a : Act} (hr : RepE g ρ a.tmps) : ∀ l : List Operand, RepL g (l.map (ρ.ev C)) (l.map a.eval)
  | [] => by simp [RepL]
  | x :: l => by simp only [List.map_cons, RepL]; exact ⟨_, _, rfl, ev_rep hG hr x, evs_rep hG hr l⟩

theorem fnA_fits (h : Sim g σ w) {f : AV} {vf : Value} {args : List AV} {vs : List Value} (hf : Rep g f vf) (ha : RepL g args vs) :
    OpR.Fits C g σ (fnA C.P f args) ((do let d ← Deferred.ofValue vf vs.toArray; invoke d.target d.args : Sem Next).run C.P w) := by
  unfold fnA
  split
  · rename_i q first cap
    split
    · rename_i he
      simp only [Rep] at hf
      obtain ⟨fs, cs, rfl, h1, h2⟩ := hf
      unfold entersT at he
      split at he
      · rename_i fn hfn
        simp only [Bool.and_eq_true, Bool.not_eq_true'] at he
        have hb : fn.body.isNone = false := by cases hb : fn.body <;> simp_all
        simp only [Deferred.ofValue, invoke, callFunc, Sem.run_bind, Sem.run_pure, Result.andThen_ok, run_program, hfn, he.2, hb, Bool.false_eq_true, if_false, Sem.run_ite]
        exact ⟨fs ++ vs ++ cs, w, by simp, h, (h1.append ha).append h2⟩
      · cases he
    · trivial
  · rename_i o
    simp only [Rep] at hf
    obtain ⟨x, hx, rfl⟩ := hf
    simp only [Deferred.ofValue, invoke, Sem.run_bind, Sem.run_pure, Result.andThen_ok]
    exact ⟨vs, x, w, w, hx, by simp, rfl, h, ha⟩
  · trivial

theorem typeAssertA_fits (h : Sim g σ w) {x : AV} {v : Value} {xt t : TypeId} {ok : Bool} (hx : Rep g x v) :
    OpR.Fits C g σ (typeAssertA C.P x t ok) ((do let r ← Instr.typeAssert v xt t ok; pure (Next.value r) : Sem Next).run C.P w) := by
  have key : ∀ {z : AV}, assertT C.P t = some z → ∃ d i vz, C.P.underlying t = some d ∧ (∀ ms, d ≠ .interface ms) ∧ C.P.info? t = some i ∧ i.zero = some vz ∧ Rep g z vz := fun {z} hz => by
    unfold assertT at hz
    split at hz
    · cases hz
    · rename_i d hn hd
      unfold zeroV at hz
      cases hi : C.P.info? t with
      | none => simp [hi] at hz
      | some i =>
        cases hzv : i.zero with
        | none => simp [hi, hzv] at hz
        | some vz => simp [hi, hzv] at hz; exact ⟨d, i, vz, hd, fun ms e => hn ms e, rfl, hzv, by rw [← hz]; exact cst_rep vz⟩
    · cases hz
  unfold typeAssertA
  split
  · rename_i z u y hz
    obtain ⟨d, i, vz, hd, hn, hi, hzv, hzr⟩ := key hz
    simp only [Rep] at hx
    obtain ⟨q, rfl, hq⟩ := hx
    have hrun : (Instr.typeAssert (.iface u q) xt t ok).run C.P w = (if u = t then .ok (if ok then .tuple #[q, .bool true] else q) w else if ok then .ok (.tuple #[vz, .bool false]) w else (Instr.typeAssert (.iface u q) xt t ok).run C.P w) := by
      by_cases hu : u = t
      · rw [if_pos hu]
        cases d <;> first
          | exact absurd rfl (hn _)
          | (cases ok <;> simp [Instr.typeAssert, run_underlying hd, hu])
      · rw [if_neg hu]
        cases ok
        · rfl
        · cases d <;> first
            | exact absurd rfl (hn _)
            | simp [Instr.typeAssert, run_underlying hd, hu, run_zeroValue' hi hzv]
    split
    · rename_i hu
      rw [Sem.run_bind, hrun, if_pos hu]
      refine fits_val h ?_
      cases ok
      · exact hq
      · simp only [if_true, Rep, RepL]; exact ⟨_, rfl, _, _, rfl, hq, _, _, rfl, rfl, rfl⟩
    · rename_i hu
      split
      · rename_i hok
        rw [Sem.run_bind, hrun, if_neg hu, if_pos hok]
        exact fits_val h (by simp only [Rep, RepL]; exact ⟨_, rfl, _, _, rfl, hzr, _, _, rfl, rfl, rfl⟩)
      · trivial
  · rename_i z hz
    obtain ⟨d, i, vz, hd, hn, hi, hzv, hzr⟩ := key hz
    simp only [Rep] at hx
    subst hx
    split
    · rename_i hok
      subst hok
      have hrun : (Instr.typeAssert .nilIface xt t true).run C.P w = .ok (.tuple #[vz, .bool false]) w := by
        cases d <;> first
          | exact absurd rfl (hn _)
          | simp [Instr.typeAssert, run_underlying hd, run_zeroValue' hi hzv]
      rw [Sem.run_bind, hrun]
      exact fits_val h (by simp only [Rep, RepL]; exact ⟨_, rfl, _, _, rfl, hzr, _, _, rfl, rfl, rfl⟩)
    · trivial
  · trivial
theorem makeSliceA_fits (h : Sim g σ w) {t : TypeId} {mu : Bool} {l c : AV} {vl vc : Value} (hl : Rep g l vl) (hc : Rep g c vc) :
    OpR.Fits C g σ (makeSliceA C.P t mu l c) ((do let x ← Instr.makeSlice t vl vc; pure (Next.value x) : Sem Next).run C.P w) := by
  unfold makeSliceA
  split
  · rename_i e sz kl l kc c hs
    split
    · rename_i z hz
      rintro ⟨h0, rfl, h1⟩
      obtain ⟨i, zv, hu, hi, hzv, hzs, hsz, hpos, hb, _⟩ := sliceT_spec hs
      obtain ⟨i', zv', hi', hz', hm⟩ := zeroC_spec hz
      rw [hi] at hi'; cases hi'
      rw [hzv] at hz'; cases hz'
      obtain ⟨h2, h3⟩ := mapM_ofScalar_rep (g := g) hm
      simp only [Rep] at hl hc
      subst hl hc
      have hbytes : (i.bytes : Int) * l ≤ 281474976710656 := by
        have e1 : (i.bytes : Int) * l ≤ 32768 * l := Int.mul_le_mul_of_nonneg_right (by omega) h0
        omega
      have hrun := run_make (P := C.P) w t e i zv hu hi hzv kl kc l l h0 (Int.le_refl _) hbytes (by omega)
      have hrep := zerosA_rep (g := g) h2 l.toNat
      have hmc : madeCells zv.cells (l.toNat * i.size) = (Array.range (l.toNat * zv.cells.size)).map (zv.cells[· % zv.cells.size]!) := by rw [hsz, ← hzs]; rfl
      have hone : ∀ u ∈ (madeCells zv.cells (l.toNat * i.size)).toList, u.oneCell' = true := fun u hu => by
        rw [hmc] at hu
        simp only [Array.toList_map, List.mem_map] at hu
        obtain ⟨j, _, rfl⟩ := hu
        have hlt : j % zv.cells.size < zv.cells.size := Nat.mod_lt _ (by omega)
        rw [getElem!_pos zv.cells _ hlt]
        exact h3 _ (by simp)
      rw [← hmc] at hrep
      have hlen : (madeCells zv.cells (l.toNat * i.size)).toList.length = l.toNat * sz := by rw [hmc]; simp [hzs]
      have hzl : z.length = sz := by have := h2.length; simp at this; omega
      simp only [Sem.run_bind, hrun, Result.andThen_ok, Sem.run_pure]
      cases mu
      · have := fits_newTok (C := C) (del := none) (e := e) (sz := sz) (n := l.toNat) (c := l.toNat) h (vs := (madeCells zv.cells (l.toNat * i.size)).toList) (rest := []) hrep hone (by simp) (by rw [zerosA_length, hzl]) (by simpa using hlen) (Nat.le_refl _) (by unfold maxLen; omega)
        simpa using this
      · have := fits_newMs (C := C) (del := none) (e := e) (sz := sz) (n := l.toNat) (c := l.toNat) h (vs := (madeCells zv.cells (l.toNat * i.size)).toList) (rest := []) hrep hone (by simp) (by simpa using hlen) (Nat.le_refl _) (by unfold maxLen; omega)
        simpa using this
    · trivial
  · trivial
theorem clearA_fits (h : Sim g σ w) {t ty : TypeId} {x : AV} {v : Value} (hx : Rep g x v) :
    OpR.Fits C g σ (clearA C.P t x σ) ((do let r ← Builtin.clear_ #[t] ty #[v]; pure (Next.value r) : Sem Next).run C.P w) := by
  unfold clearA
  split
  · rename_i e sz b off n esz e' hs
    split
    · rename_i l z hb hz
      rintro ⟨rfl, h1⟩
      obtain ⟨i, zv, hu, hi, hzv, hzs, hsz, hpos, _⟩ := sliceT_spec hs
      obtain ⟨i', zv', hi', hz', hm⟩ := zeroC_spec hz
      rw [hi] at hi'; cases hi'
      rw [hzv] at hz'; cases hz'
      obtain ⟨h2, h3⟩ := mapM_ofScalar_rep (g := g) hm
      simp only [Rep] at hx
      obtain ⟨y, c, hy, rfl, _⟩ := hx
      have hzl : z.length = esz := by have := h2.length; simp at this; omega
      have hrep := zerosA_rep (g := g) h2 n
      have hzc : Builtin.zeroCells zv.cells n = (Array.range (n * zv.cells.size)).map (zv.cells[· % zv.cells.size]!) := rfl
      obtain ⟨w', hst, hs'⟩ := storeCells_box (C := C) (off := off) h hb hy hrep (zeroCells_oneCell h3 n (by omega)) (by rw [zerosA_length, hzl]; exact h1)
      rw [← hzc] at hst
      by_cases hn : n = 0
      · subst hn
        have e0 : σ.setBox b (spliceL l off (zerosA 0 z)) = σ.setBox b l := by simp [spliceL, zerosA]
        simp only [Builtin.clear_, Sem.run_bind, Sem.run_pure, Result.andThen_ok]
        simp [run_underlying hu]
        refine ⟨_, w, g, .inl rfl, Gh.Le.refl g, ?_, by simp only [Rep]; exact ⟨[], rfl, by simp [RepL]⟩⟩
        show Sim g (σ.setBox b (spliceL l off (zerosA 0 z))) w
        rw [e0]; exact h.reBox hb
      · have hz2 := run_zeroValue' (P := C.P) hi hzv w
        have hclear : (Builtin.clear_ #[t] ty #[.slice (some ⟨y.blk, off, none⟩) n c]).run C.P w = .ok (.tuple #[]) w' := by
          simp [Builtin.clear_, run_underlying hu, hz2, hst, hn]
        simp only [Sem.run_bind, hclear, Result.andThen_ok, Sem.run_pure]
        exact ⟨_, w', g, .inl rfl, Gh.Le.refl g, hs', by simp only [Rep]; exact ⟨[], rfl, by simp [RepL]⟩⟩
    · trivial
  · trivial
theorem zip_map_fst : ∀ {ks vs : List AV}, ks.length = vs.length → (ks.zip vs).map (·.1) = ks
  | [], [], _ => rfl
  | [], _ :: _, h => by simp at h
  | _ :: _, [], h => by simp at h
  | k :: ks, v :: vs, h => by simp only [List.zip_cons_cons, List.map_cons]; rw [zip_map_fst (by simpa using h)]
theorem zip_map_snd : ∀ {ks vs : List AV}, ks.length = vs.length → (ks.zip vs).map (·.2) = vs
  | [], [], _ => rfl
  | [], _ :: _, h => by simp at h
  | _ :: _, [], h => by simp at h
  | k :: ks, v :: vs, h => by simp only [List.zip_cons_cons, List.map_cons]; rw [zip_map_snd (by simpa using h)]
theorem rangeA_fits (h : Sim g σ w) {t : TypeId} {m : AV} {v : Value} (hm : Rep g m v) : OpR.Fits C g σ (rangeA C.P t m) ((do let x ← Instr.range t v; pure (Next.value x) : Sem Next).run C.P w) := by
  unfold rangeA
  split
  · rename_i p ks vs ht
    obtain ⟨fk, e⟩ := p
    obtain ⟨kt, hu, _⟩ := mapT_spec ht
    simp only [Rep] at hm
    obtain ⟨r, es, clock, l, rfl, hr, hp, hs, h1, h2⟩ := hm
    obtain ⟨q1, q2⟩ := h.imap r es clock hr
    have hlen : ks.length = vs.length := by
      have a := h1.length
      have b := h2.length
      simp at a b; omega
    have hget : (getObj r).run C.P w = .ok (.map es clock) w := by simp [getObj, Sem.run, q1]
    obtain ⟨b, g', f1, f2, f3, f4⟩ := h.newThing (.mapIter (some r) clock #[] clock) 0 0 (.iter (ks.zip vs) none) fun g' hle hi hm' =>
      ⟨r, es, clock, #[], heap_alloc_new w _, hle.imap _ _ hr, ⟨l, by
        have : (es.toList.filter fun e => !(#[] : Array Nat).contains e.born) = es.toList := by simp
        rw [this]; exact hp, by rw [zip_map_fst hlen]; exact h1.mono hle, by rw [zip_map_snd hlen]; exact h2.mono hle⟩, trivial⟩
    simp only [Instr.range, Sem.run_bind, run_underlying hu, Result.andThen_ok, hget, Sem.run_pure, run_newObj]
    exact ⟨_, _, g', b, rfl, f1, f2, f4, by simp only [NV.at, Rep]; exact ⟨_, f3, rfl⟩⟩
  · trivial
theorem picks_get : ∀ {l : List (AV × AV)} {i : Nat} {x : AV × AV}, l[i]? = some x → (x, l.eraseIdx i) ∈ picks l
  | [], i, x, h => by simp at h
  | y :: l, 0, x, h => by simp at h; subst h; simp [picks]
  | y :: l, i + 1, x, h => by
    simp only [List.getElem?_cons_succ] at h
    simp only [picks, List.eraseIdx_cons_succ, List.mem_cons, List.mem_map]
    exact .inr ⟨_, picks_get h, rfl⟩
theorem RepL.eraseIdx : ∀ {l : List AV} {vs : List Value} (i : Nat), RepL g l vs → RepL g (l.eraseIdx i) (vs.eraseIdx i)
  | [], _, _, h => by simp only [RepL] at h; subst h; simp [RepL]
  | y :: ys, _, 0, h => by
    simp only [RepL] at h
    obtain ⟨v, vs, rfl, h1, h2⟩ := h
    simpa using h2
  | y :: ys, _, i + 1, h => by
    simp only [RepL] at h
    obtain ⟨v, vs, rfl, h1, h2⟩ := h
    simp only [List.eraseIdx_cons_succ, RepL]
    exact ⟨v, _, rfl, h1, RepL.eraseIdx i h2⟩
theorem map_eraseIdx' {α β : Type} (f : α → β) : ∀ (l : List α) (i : Nat), (l.eraseIdx i).map f = (l.map f).eraseIdx i
  | [], i => by simp
  | x :: l, 0 => by simp
  | x :: l, i + 1 => by simp [map_eraseIdx' f l i]
theorem perm_eraseIdx {α : Type} {l m : List α} (h : l.Perm m) {i j : Nat} {e : α} (hi : l[i]? = some e) (hj : m[j]? = some e) : (l.eraseIdx i).Perm (m.eraseIdx j) := by
  obtain ⟨h1, h2⟩ := List.getElem?_eq_some_iff.1 hi
  obtain ⟨h3, h4⟩ := List.getElem?_eq_some_iff.1 hj
  have el : l = l.take i ++ e :: l.drop (i + 1) := by
    conv => lhs; rw [← List.take_append_drop i l, List.drop_eq_getElem_cons h1, h2]
  have em : m = m.take j ++ e :: m.drop (j + 1) := by
    conv => lhs; rw [← List.take_append_drop j m, List.drop_eq_getElem_cons h3, h4]
  have hp : (l.take i ++ e :: l.drop (i + 1)).Perm (m.take j ++ e :: m.drop (j + 1)) := by rw [← el, ← em]; exact h
  have h5 := (List.perm_middle.symm.trans hp).trans List.perm_middle
  rw [List.eraseIdx_eq_take_drop_succ, List.eraseIdx_eq_take_drop_succ]
  exact List.Perm.cons_inv h5
theorem filter_seen {es : List MapEntry} (hn : (es.map (·.born)).Nodup) {seen : Array Nat} {e : MapEntry} {j : Nat} (hj : (es.filter fun x => !seen.contains x.born)[j]? = some e) :
    (es.filter fun x => !(seen.push e.born).contains x.born) = (es.filter fun x => !seen.contains x.born).eraseIdx j := by
  have e1 : (es.filter fun x => !(seen.push e.born).contains x.born) = (es.filter fun x => !seen.contains x.born).filter fun x => x.born != e.born := by
    rw [List.filter_filter]
    apply List.filter_congr
    intro x _
    simp only [Array.contains_push, Bool.not_or]
    rw [Bool.and_comm]
    congr 1
  rw [e1]
  have hn2 : ((es.filter fun x => !seen.contains x.born).map (·.born)).Nodup := List.Nodup.sublist (List.Sublist.map _ List.filter_sublist) hn
  generalize (es.filter fun x => !seen.contains x.born) = l at hj hn2
  clear e1 hn es
  induction l generalizing j with
  | nil => simp at hj
  | cons y l ih =>
    simp only [List.map_cons, List.nodup_cons] at hn2
    cases j with
    | zero =>
      simp at hj; subst hj
      simp only [List.filter_cons, bne_self_eq_false, Bool.false_eq_true, if_false, List.eraseIdx_zero, List.tail_cons]
      rw [List.filter_eq_self]
      intro x hx
      simp only [bne_iff_ne, ne_eq]
      intro he
      exact hn2.1 (he ▸ List.mem_map_of_mem hx)
    | succ j =>
      simp only [List.getElem?_cons_succ] at hj
      have hne : y.born ≠ e.born := fun he => hn2.1 (he ▸ List.mem_map_of_mem (List.mem_of_getElem? hj))
      simp only [List.filter_cons, bne_iff_ne, ne_eq, hne, not_false_eq_true, if_true, List.eraseIdx_cons_succ]
      rw [ih hj hn2.2]

theorem nextA_fits (h : Sim g σ w) {i : AV} {v : Value} {ty : TypeId} (hi : Rep g i v) : OpR.Fits C g σ (nextA i σ) ((do let x ← Instr.next v false ty; pure (Next.value x) : Sem Next).run C.P w) := by
  unfold nextA
  split
  · rename_i o
    simp only [Rep] at hi
    obtain ⟨p, hp, rfl⟩ := hi
    split
    · rename_i cur hit
      obtain ⟨p', k1, k2, m, es, clock, seen, k3, k4, ⟨l, k5, k6, k7⟩, k8⟩ := h.live o _ (St.iter_iff.1 hit)
      rw [hp] at k1; cases k1
      obtain ⟨q1, q2⟩ := h.imap m es clock k4
      simp only [List.map_nil, RepL, List.map_eq_nil_iff] at k6
      subst k6
      have hnil := k5.symm.eq_nil
      have hg1 : (getObj p.blk).run C.P w = .ok (.mapIter (some m) clock seen clock) w := by simp [getObj, Sem.run, k3]
      have hg2 : (getObj m).run C.P w = .ok (.map es clock) w := by simp [getObj, Sem.run, q1]
      have hborn : (!seen.isEmpty && !es.isEmpty && es.all (fun e => decide (e.born ≥ clock))) = false := by
        cases he : es.isEmpty
        · have : es.all (fun e => decide (e.born ≥ clock)) = false := by
            rw [Array.all_eq_false]
            have h0 : 0 < es.size := by
              rcases Nat.eq_zero_or_pos es.size with h0 | h0
              · simp [Array.isEmpty, h0] at he
              · exact h0
            refine ⟨0, h0, ?_⟩
            have := q2.2 es[0] (by simp)
            simp; omega
          simp [this]
        · simp
      have hleft : (es.filter fun e => !seen.contains e.born) = #[] := by
        apply Array.ext'
        simpa using hnil
      simp only [Instr.next, Sem.run_bind, hg1, Result.andThen_ok, hg2, hborn, Sem.run_ite, Bool.false_eq_true, if_false, Sem.run_pure, hleft]
      have e2 : (#[] : Array MapEntry).filter (fun e => decide (e.born < clock)) = #[] := by simp
      have e3 : (#[] : Array MapEntry).filter (fun e => decide (e.born ≥ clock)) = #[] := by simp
      simp [choose, Sem.run, Question.forced, Result.andThen]
      exact fits_val h (by simp only [Rep, RepL]; exact ⟨[.bool false], rfl, _, _, rfl, rfl, rfl⟩)
    · rename_i x xs cur hit
      obtain ⟨p', k1, k2, m, es, clock, seen, k3, k4, ⟨l, k5, k6, k7⟩, k8⟩ := h.live o _ (St.iter_iff.1 hit)
      rw [hp] at k1; cases k1
      obtain ⟨q1, q2⟩ := h.imap m es clock k4
      have hg1 : (getObj p.blk).run C.P w = .ok (.mapIter (some m) clock seen clock) w := by simp [getObj, Sem.run, k3]
      have hborn : (!seen.isEmpty && !es.isEmpty && es.all (fun e => decide (e.born ≥ clock))) = false := by
        cases he : es.isEmpty
        · have : es.all (fun e => decide (e.born ≥ clock)) = false := by
            rw [Array.all_eq_false]
            have h0 : 0 < es.size := by
              rcases Nat.eq_zero_or_pos es.size with h0 | h0
              · simp [Array.isEmpty, h0] at he
              · exact h0
            refine ⟨0, h0, ?_⟩
            have := q2.2 es[0] (by simp)
            simp; omega
          simp [this]
        · simp
      generalize hL : (es.filter fun e => !seen.contains e.born) = L
      have hL' : (es.toList.filter fun e => !seen.contains e.born) = L.toList := by rw [← hL]; simp
      rw [hL'] at k5
      have hmem : ∀ e ∈ L.toList, e ∈ es.toList := fun e he => by rw [← hL'] at he; exact (List.mem_filter.1 he).1
      have hlen : l.length = xs.length + 1 := by have := k6.length; simpa using this
      have hLs : L.size = xs.length + 1 := by rw [← hlen, k5.length_eq]; simp
      have hold : L.filter (fun e => decide (e.born < clock)) = L := by
        apply Array.ext'
        rw [Array.toList_filter, List.filter_eq_self]
        intro e he
        have := q2.2 e (hmem e he)
        simpa using this
      have hnew : L.filter (fun e => decide (e.born ≥ clock)) = #[] := by
        apply Array.ext'
        rw [Array.toList_filter]
        apply List.filter_eq_nil_iff.2
        intro e he
        have := q2.2 e (hmem e he)
        simp; omega
      have hem : L.isEmpty = false := by simp [Array.isEmpty, hLs]
      -- the choice
      have key : ∀ (w1 : World) (c : Nat), w1.heap = w.heap → w1.os = w.os → w1.tape = w.tape → w1.output = w.output → c < L.size →
          ∀ e, L[c]? = some e → ∃ u w' g' v x', (setObj p.blk (.mapIter (some m) clock (seen.push e.born) clock)).run C.P w1 = .ok () w' ∧ u = Value.tuple #[.bool true, e.key, e.val] ∧
            (v, x') ∈ (picks (x :: xs)).map (fun p => (AV.tup [.bool true, p.1.1, p.1.2], Live.iter p.2 (some p.1))) ∧ Gh.Le g g' ∧ Sim g' (σ.set o x') w' ∧ Rep g' v u := fun w1 c e1 e2 e3 e4 hc e he => by
        have he' : L.toList[c]? = some e := by rw [Array.getElem?_toList]; exact he
        obtain ⟨a, ha⟩ := List.getElem?_of_mem (k5.mem_iff.2 (List.mem_of_getElem? he'))
        have hal : a < (x :: xs).length := by
          have := (List.getElem?_eq_some_iff.1 ha).1
          rw [hlen] at this; simpa using this
        have hxa : (x :: xs)[a]? = some ((x :: xs)[a]) := List.getElem?_eq_getElem hal
        generalize (x :: xs)[a] = kv at hxa
        obtain ⟨vk, hvk, hk1⟩ := k6.get (i := a) (x := kv.1) (by rw [List.getElem?_map, hxa]; rfl)
        obtain ⟨vv, hvv, hk2⟩ := k7.get (i := a) (x := kv.2) (by rw [List.getElem?_map, hxa]; rfl)
        rw [List.getElem?_map, ha] at hvk hvv
        simp at hvk hvv
        subst hvk hvv
        have hset : (setObj p.blk (.mapIter (some m) clock (seen.push e.born) clock)).run C.P w1 = .ok () { w1 with heap := w1.heap.setIfInBounds p.blk (.mapIter (some m) clock (seen.push e.born) clock) } := by
          simp [setObj, Sem.run, e1, k3]
        have hlt := (Array.getElem?_eq_some_iff.1 k3).1
        refine ⟨_, _, g, _, _, hset, rfl, List.mem_map.2 ⟨_, picks_get hxa, rfl⟩, Gh.Le.refl g, ?_, ?_⟩
        · refine h.rewrite (St.iter_iff.1 hit) hp ⟨e2, e3, e4, by simp [e1]⟩ (fun k hk _ => by simp only [e1]; exact Array.getElem?_setIfInBounds_ne (Ne.symm hk)) (fun o => ?_) ?_ ?_
          · cases ei : g.imm p.blk o with
            | none => rfl
            | some u => have := (h.imm _ _ _ ei).1; simp [World.cell?, k3] at this
          · cases ei : g.imap p.blk with
            | none => rfl
            | some u => have := (h.imap _ _ _ ei).1; rw [k3] at this; cases this
          · refine ⟨m, es, clock, seen.push e.born, by simp [e1, hlt], k4, ⟨l.eraseIdx a, ?_, ?_, ?_⟩, e, ?_, by simp, hk1, hk2⟩
            · have hc2 : (es.toList.filter fun e => !seen.contains e.born)[c]? = some e := by rw [hL']; exact he'
              rw [filter_seen q2.1 hc2, hL']
              exact perm_eraseIdx k5 ha he'
            · rw [map_eraseIdx', map_eraseIdx']; exact k6.eraseIdx a
            · rw [map_eraseIdx', map_eraseIdx']; exact k7.eraseIdx a
            · exact hmem e (List.mem_of_getElem? he')
        · simp only [Rep, RepL]
          exact ⟨_, rfl, _, _, rfl, rfl, _, _, rfl, hk1, _, _, rfl, hk2, rfl⟩
      have hnextrun : ∀ (n : Nat) (w1 : World), (choose (.mapNext L.size)).run C.P w = .ok n w1 → w1.heap = w.heap → w1.os = w.os → w1.tape = w.tape → w1.output = w.output → n < L.size →
          OpR.Fits C g σ (.anyOf o ((picks (x :: xs)).map fun p => (.tup [.bool true, p.1.1, p.1.2], .iter p.2 (some p.1)))) ((do let x ← Instr.next (.pointer (some ⟨p.blk, 0, none⟩)) false ty; pure (Next.value x) : Sem Next).run C.P w) := fun n w1 hch e1 e2 e3 e4 hn => by
        have hg2 : (getObj m).run C.P w = .ok (.map es clock) w := by simp [getObj, Sem.run, q1]
        have hLn : L[n]? = some L[n] := by simp [hn]
        generalize L[n] = e at hLn
        obtain ⟨u, w', g', v, x', r1, r2, r3, r4, r5, r6⟩ := key w1 n e1 e2 e3 e4 hn e hLn
        have hcand : ((#[] : Array (Option MapEntry)) ++ (L ++ #[]).map some).size = L.size := by simp
        have hcn : ((#[] : Array (Option MapEntry)) ++ (L ++ #[]).map some)[n]? = some (some e) := by simp [hLn]
        simp only [Instr.next, Sem.run_bind, hg1, Result.andThen_ok, hg2, hborn, Sem.run_ite, Bool.false_eq_true, if_false, Sem.run_pure, hL, hold, hnew, hem, hcand, hch, hcn, r1]
        exact ⟨_, w', g', v, x', rfl, r3, r4, r5, by rw [← r2]; exact r6⟩
      by_cases hf : L.size ≤ 1
      · refine hnextrun 0 w ?_ rfl rfl rfl rfl (by omega)
        simp [choose, Sem.run, Question.forced, hf]
      · refine hnextrun (w.tape w.drawn (.mapNext L.size) % L.size) w.drew ?_ rfl rfl rfl rfl (Nat.mod_lt _ (by omega))
        have hfq : Question.forced (.mapNext L.size) = false := by simp only [Question.forced, decide_eq_false_iff_not]; exact hf
        simp only [choose, Sem.run, hfq, Bool.false_eq_true, if_false, Question.cut]
        rfl
    · trivial
  · trivial

theorem entryA_fits (h : Sim g σ w) {i : AV} {v : Value} (hi : Rep g i v) : OpR.Fits C g σ (entryA i σ) ((do let x ← Instr.entry v; pure (Next.value x) : Sem Next).run C.P w) := by
  unfold entryA
  split
  · rename_i o
    simp only [Rep] at hi
    obtain ⟨p, hp, rfl⟩ := hi
    split
    · rename_i rest kv hit
      obtain ⟨p', k1, k2, m, es, clock, seen, k3, k4, _, e, k5, k6, k7, k8⟩ := h.live o _ (St.iter_iff.1 hit)
      rw [hp] at k1; cases k1
      obtain ⟨q1, q2⟩ := h.imap m es clock k4
      have hg1 : (getObj p.blk).run C.P w = .ok (.mapIter (some m) clock seen clock) w := by simp [getObj, Sem.run, k3]
      have hg2 : (getObj m).run C.P w = .ok (.map es clock) w := by simp [getObj, Sem.run, q1]
      have hfind : es.find? (fun x => x.born == e.born) = some e := by
        rw [← Array.find?_toList]
        have hn := q2.1
        generalize es.toList = l at k5 hn
        induction l with
        | nil => simp at k5
        | cons y l ih =>
          simp only [List.map_cons, List.nodup_cons] at hn
          rw [List.find?_cons]
          rcases List.mem_cons.1 k5 with rfl | hm
          · simp
          · have : (y.born == e.born) = false := by
              simp only [beq_eq_false_iff_ne, ne_eq]
              intro he
              exact hn.1 (he ▸ List.mem_map_of_mem hm)
            rw [this]
            exact ih hm hn.2
      simp only [Instr.entry, Sem.run_bind, hg1, Result.andThen_ok, k6, hg2, bne_self_eq_false, Bool.false_eq_true, if_false, Sem.run_ite, Sem.run_pure, hfind]
      exact fits_val h (by simp only [Rep, RepL]; exact ⟨_, rfl, _, _, rfl, k7, _, _, rfl, k8, rfl⟩)
    · trivial
  · trivial

theorem evParts_rep (hG : GlobOK C g) {ρ : Env} {a : Act} (hr : RepE g ρ a.tmps) (parts : Array (Nat × Operand)) :
    (parts.map fun (i, x) => (i, a.eval x)).size = (evParts C ρ parts).length ∧ ∀ (i : Nat) (p : Nat × AV) (q : Nat × Value), (evParts C ρ parts)[i]? = some p → (parts.map fun (i, x) => (i, a.eval x))[i]? = some q → p.1 = q.1 ∧ Rep g p.2 q.2 := by
  refine ⟨by simp [evParts], fun i p q h1 h2 => ?_⟩
  simp only [evParts, List.getElem?_map, Array.getElem?_toList, Option.map_eq_some_iff] at h1
  obtain ⟨y, hy, rfl⟩ := h1
  simp only [Array.getElem?_map, hy, Option.map_some, Option.some.injEq] at h2
  subst h2
  exact ⟨rfl, ev_rep hG hr _⟩

theorem opt_rep (hG : GlobOK C g) {ρ : Env} {a : Act} (hr : RepE g ρ a.tmps) (x : Option Operand) : match x.map (ρ.ev C), x.map a.eval with | none, none => True | some x, some u => Rep g x u | _, _ => False := by
  cases x with
  | none => trivial
  | some x => exact ev_rep hG hr x

theorem run_appendZeros {P : Program} {w : World} {t u ty e : TypeId} {i : TypeInfo} {z : Value} {k k' : IntKind} (ht : P.underlying t = some (.slice e)) (hu : P.underlying u = some (.int k')) (hi : P.info? e = some i) (hz : i.zero = some z) (hby : i.bytes ≤ 32768) (hp : 0 < i.size)
    {n : Nat} (h0 : 0 < n) (hn : n ≤ 65536) :
    (Builtin.append_ #[t, u] ty #[.slice none 0 0, .int k (n : Int)]).run P w =
      .ok (.slice (some ⟨w.heap.size, 0, none⟩) n (grownCap w n 0 e))
        (w.drew.alloc (.cells (Builtin.zeroCells z.cells n ++ Builtin.zeroCells z.cells (grownCap w n 0 e - n)) e)) := by
  have hwrap : IntKind.i64.wrap (n : Int) = n := wrap_I64 ⟨by omega, by omega⟩
  have h63' : ¬ (9223372036854775807 < (n : Int)) := by omega
  have hb2 : n * i.bytes ≤ 140737488355328 := Nat.le_trans (Nat.mul_le_mul hn hby) (by omega)
  have h48 := growslice_fits (old := 0) (need := n) (bytes := i.bytes) (by omega) hb2
  have h48' : ¬ (281474976710656 < Builtin.nextslicecap n 0 * i.bytes) := by omega
  have hb3 : ¬ ((281474976710656 : Int) < (n : Int) * (i.bytes : Int)) := by
    have : (n : Int) * (i.bytes : Int) = ((n * i.bytes : Nat) : Int) := by simp
    omega
  have hns : ¬ (n = 0 ∨ i.size = 0) := by omega
  have hneg : ¬ ((n : Int) < 0) := by omega
  simp [Builtin.append_, run_underlying ht, run_underlying hu, sizeOf, typeInfo, zeroValue, hi, hz, hwrap, h63', h48', hb3, hns, hneg, Question.forced, newRow, grownCap, asInt, asIntOf, Builtin.firstCells]
  have e1 : n ≠ 0 := by omega
  have e2 : n * i.size ≠ 0 := Nat.mul_ne_zero e1 (by omega)
  rw [if_neg e1, if_neg e2]
theorem growT_spec {P : Program} {t u : TypeId} {q : TypeId × Nat × List AV} (h : growT P t u = some q) : ∃ k, P.underlying u = some (.int k) ∧ sliceT P t = some (q.1, q.2.1) ∧ zeroC P q.1 = some q.2.2 := by
  unfold growT at h
  split at h
  · rename_i k hu
    split at h
    · rename_i e sz hs
      split at h
      · rename_i z hz
        cases h
        exact ⟨k, hu, hs, hz⟩
      · cases h
    · cases h
  · cases h
theorem growR_fits (h : Sim g σ w) {t u ty : TypeId} {mu : Bool} {q : TypeId × Nat × List AV} (hq : growT C.P t u = some q) {s y : AV} {v v2 : Value} (hs : Rep g s v) (hy : Rep g y v2) :
    OpR.Fits C g σ (growR q mu s y) ((do let r ← Builtin.append_ #[t, u] ty #[v, v2]; pure (Next.value r) : Sem Next).run C.P w) := by
  obtain ⟨k', hu, hsl, hz⟩ := growT_spec hq
  unfold growR
  split
  · rename_i k n
    rintro ⟨h0, h1⟩
    obtain ⟨i, zv, ht, hi, hzv, hzs, hsz, hpos, hby, hz1⟩ := sliceT_spec hsl
    obtain ⟨i', zv', hi', hz', hm⟩ := zeroC_spec hz
    rw [hi] at hi'; cases hi'
    rw [hzv] at hz'; cases hz'
    obtain ⟨h2, h3⟩ := mapM_ofScalar_rep (g := g) hm
    simp only [Rep] at hs hy
    subst hs hy
    obtain ⟨m, rfl⟩ : ∃ m : Nat, n = m := ⟨n.toNat, by omega⟩
    simp only [Int.toNat_natCast]
    have hge := grownCap_ge w m 0 q.1
    have hle := grownCap_le_maxLen w m 0 q.1 (by unfold maxLen; omega)
    rw [Sem.run_bind, run_appendZeros (k := k) ht hu hi hzv hby (by omega) (by omega) (by omega)]
    have hs' := h.grow (grownBy_drew w)
    have hrep := zerosA_rep (g := g) h2 m
    have hzl : q.2.2.length = i.size := by have := h2.length; simp at this; omega
    have hone := zeroCells_oneCell h3 m (by omega)
    have hone2 := zeroCells_oneCell h3 (grownCap w m 0 q.1 - m) (by omega)
    have hlen : (Builtin.zeroCells zv.cells m).toList.length + (Builtin.zeroCells zv.cells (grownCap w m 0 q.1 - m)).toList.length = grownCap w m 0 q.1 * q.2.1 := by
      rw [Array.length_toList, Array.length_toList, size_zeroCells, size_zeroCells, hzs, ← Nat.add_mul, ← hsz]
      congr 1; omega
    have ew : Builtin.zeroCells zv.cells m ++ Builtin.zeroCells zv.cells (grownCap w m 0 q.1 - m) = ((Builtin.zeroCells zv.cells m).toList ++ (Builtin.zeroCells zv.cells (grownCap w m 0 q.1 - m)).toList).toArray := by simp
    rw [ew]
    simp only [Result.andThen_ok, Sem.run_pure]
    cases mu
    · exact fits_newTok hs' hrep hone hone2 (by rw [zerosA_length, hzl, hsz]) hlen hge hle
    · exact fits_newMs hs' hrep hone hone2 hlen hge hle
  · trivial
theorem capA_fits (h : Sim g σ w) {t ty : TypeId} {x : AV} {v : Value} (hx : Rep g x v) :
    OpR.Fits C g σ (capA (sliceT C.P t) x) ((do let r ← Builtin.cap_ #[t] ty #[v]; pure (Next.value r) : Sem Next).run C.P w) := by
  unfold capA
  split
  · rename_i q hq
    obtain ⟨e, sz⟩ := q
    obtain ⟨i, z, ht, _⟩ := sliceT_spec hq
    simp only [Rep] at hx
    subst hx
    have : (Builtin.cap_ #[t] ty #[.slice none 0 0]).run C.P w = .ok (.int .i64 0) w := by simp [Builtin.cap_, run_underlying ht]; rfl
    rw [Sem.run_bind, this]
    exact fits_val h (by simp only [Rep])
  · trivial
theorem appendB_fits (h : Sim g σ w) {t u ty : TypeId} {mu : Bool} {s y : AV} {v v2 : Value} (hs : Rep g s v) (hy : Rep g y v2) :
    OpR.Fits C g σ (appendB C.P t u mu s y σ) ((do let r ← Builtin.append_ #[t, u] ty #[v, v2]; pure (Next.value r) : Sem Next).run C.P w) := by
  unfold appendB
  split
  · rename_i q hq
    exact growR_fits h hq hs hy
  · exact appendA_fits h hs hy
theorem callA_fits (h : Sim g σ w) (hG : GlobOK C g) {ρ : Env} {a : Act} (hr : RepE g ρ a.tmps) (mu : Bool) (c : Call) (ty : TypeId) :
    OpR.Fits C g σ (callA C mu c ρ σ) ((do let d ← resolve a.eval c ty; invoke d.target d.args : Sem Next).run C.P w) := by
  obtain ⟨callee, ⟨args⟩, ⟨argTypes⟩⟩ := c
  have e := fun x => ev_rep hG hr x
  have fin : OpR.Fits C g σ (match callee, argTypes, args with
      | .value f, _, args => fnA C.P (ρ.ev C f) (args.map (ρ.ev C))
      | .builtin .len, [t], [x] => lenA C.P t (ρ.ev C x) σ
      | .builtin .append, [t, u], [s, y] => appendB C.P t u mu (ρ.ev C s) (ρ.ev C y) σ
      | .builtin .cap, [t], [x] => capA (sliceT C.P t) (ρ.ev C x)
      | .builtin .min, _, [x, y] => minA (ρ.ev C x) (ρ.ev C y)
      | .builtin .max, _, [x, y] => maxA (ρ.ev C x) (ρ.ev C y)
      | .builtin .clear, [t], [x] => clearA C.P t (ρ.ev C x) σ
      | _, _, _ => .bad) ((do let d ← resolve a.eval ⟨callee, ⟨args⟩, ⟨argTypes⟩⟩ ty; invoke d.target d.args : Sem Next).run C.P w) := by
    split
    · rename_i f
      have := fnA_fits (C := C) h (e f) (evs_rep hG hr args)
      have e2 : (args.map a.eval).toArray = (⟨args⟩ : Array Operand).map a.eval := by simp
      rw [e2] at this
      exact this
    · rename_i t x
      have := lenA_fits (C := C) (ty := ty) h (t := t) (e x)
      simpa only [resolve, invoke, builtin, Sem.run_bind, Sem.run_pure, Result.andThen_ok, List.map_toArray, List.map_cons, List.map_nil] using this
    · rename_i t u s y
      have := appendB_fits (C := C) (ty := ty) (mu := mu) h (t := t) (u := u) (e s) (e y)
      simpa only [resolve, invoke, builtin, Sem.run_bind, Sem.run_pure, Result.andThen_ok, List.map_toArray, List.map_cons, List.map_nil] using this
    · rename_i t x
      have := capA_fits (C := C) (ty := ty) h (t := t) (e x)
      simpa only [resolve, invoke, builtin, Sem.run_bind, Sem.run_pure, Result.andThen_ok, List.map_toArray, List.map_cons, List.map_nil] using this
    · rename_i x y
      have := minA_fits (C := C) (ty := ty) (ts := ⟨argTypes⟩) h (e x) (e y)
      simpa only [resolve, invoke, builtin, Sem.run_bind, Sem.run_pure, Result.andThen_ok, List.map_toArray, List.map_cons, List.map_nil] using this
    · rename_i x y
      have := maxA_fits (C := C) (ty := ty) (ts := ⟨argTypes⟩) h (e x) (e y)
      simpa only [resolve, invoke, builtin, Sem.run_bind, Sem.run_pure, Result.andThen_ok, List.map_toArray, List.map_cons, List.map_nil] using this
    · rename_i t x
      have := clearA_fits (C := C) (ty := ty) h (t := t) (e x)
      simpa only [resolve, invoke, builtin, Sem.run_bind, Sem.run_pure, Result.andThen_ok, List.map_toArray, List.map_cons, List.map_nil] using this
    · trivial
  exact fin

theorem opR_fits (h : Sim g σ w) (hG : GlobOK C g) {ρ : Env} {a : Act} (hr : RepE g ρ a.tmps) (mu : Bool) (o : Oper) : OpR.Fits C g σ (opR C mu o.op ρ σ) ((execOp a.eval o).run C.P w) := by
  have e := fun x => ev_rep hG hr x
  obtain ⟨dst, op, type, pos, after, guard⟩ := o
  unfold opR
  dsimp only
  split
  · exact fits_val h (e _)
  · exact fits_val h (e _)
  · rename_i c x y
    unfold pickA
    split
    · rename_i t ht
      have hc := e c
      rw [ht] at hc
      simp only [Rep] at hc
      simp only [execOp, hc, asBool, Sem.run_bind, Sem.run_pure, Result.andThen_ok]
      refine fits_val h ?_
      cases t
      · exact e _
      · exact e _
    · trivial
  · exact allocA_fits h
  · exact boxA_fits h (e _)
  · obtain ⟨h1, h2⟩ := evParts_rep hG hr ‹_›
    exact buildA_fits h h1 h2
  · obtain ⟨h1, h2⟩ := evParts_rep hG hr ‹_›
    exact buildSliceA_fits h h1 h2
  · exact mapUpdateA_fits h (e _) (e _) (e _)
  · exact mapUpdateA_fits h (e _) (e _) (e _)
  · exact loadA_fits h (e _)
  · exact storeA_fits h (e _) (e _)
  · exact nilCheckA_fits h rfl (e _)
  · exact binL_fits h _ _ (e _) (e _)
  · exact unA_fits h (e _)
  · exact convA_fits h (e _)
  · exact makeIfaceA_fits h (e _)
  · rename_i fn first cap
    simp only [execOp, Instr.makeFunc, Sem.run_bind, Sem.run_pure, Result.andThen_ok]
    refine fits_val h ?_
    simp only [Rep]
    exact ⟨first.toList.map a.eval, cap.toList.map a.eval, by congr 1 <;> (apply Array.ext'; simp), evs_rep hG hr _, evs_rep hG hr _⟩
  · simp only [execOp, Instr.makeMap, Option.map_none, Sem.run_bind, Sem.run_pure, Result.andThen_ok, run_newObj]
    exact newMp_fits h
  · exact sliceA_fits h (e _) (opt_rep hG hr _) (opt_rep hG hr _)
  · exact fieldAddrA_fits h (e _)
  · exact fieldValA_fits h (e _)
  · exact indexAddrA_fits h (e _) (e _)
  · exact indexA_fits h (e _) (e _)
  · exact lookupA_fits h (e _) (e _)
  · exact extractA_fits h (e _) _
  · exact panicA_fits h (e _)
  · exact rangeA_fits h (e _)
  · exact typeAssertA_fits h (e _)
  · exact makeSliceA_fits h (e _) (e _)
  · exact nextA_fits h (e _)
  · exact entryA_fits h (e _)
  · exact callA_fits h hG hr mu _ _
  · trivial
end
end Go.Rip
