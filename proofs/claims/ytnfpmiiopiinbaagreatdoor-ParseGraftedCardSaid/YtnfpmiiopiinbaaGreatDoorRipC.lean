/- Lemmas for the proof: no conditions. -/
import Derived.Test.YtnfpmiiopiinbaaGreatDoorRipZz
import Derived.Test.YtnfpmiiopiinbaaGreatDoorRipB
set_option linter.unusedVariables false
set_option linter.unusedSimpArgs false
set_option linter.loopingSimpArgs false
namespace Go.Rip
open Go.RowKit
mutual
def flat : AV -> Bool
 | .bool _ | .int _ _ | .str _ | .aT | .ag | .jf | .cP | .cA => true
 | .iface _ v => flat v
 | .agg l => xF l
 | .aN l => xF l
 | _ => false
def xF : List AV -> Bool
 | [] => true
 | x :: xs => flat x && xF xs
end
mutual
theorem ao.flat {g g' : Gh} : ∀ (x : AV) (v : Value), flat x = true -> ao g x v -> ao g' x v
 | .bool _, _, _, hr => hr
 | .int _ _, _, _, hr => hr
 | .str _, _, _, hr => hr
 | .aT, _, _, hr => hr
 | .ag, _, _, hr => hr
 | .jf, _, _, hr => hr
 | .cP, _, _, hr => hr
 | .cA, _, _, hr => hr
 | .iface t x, v, h, hr => by
   simp only [Rip.flat] at h
   simp only [ao] at hr ⊢
   obtain ⟨u, h1, h2⟩ := hr
   exact ⟨u, h1, ao.flat x u h h2⟩
 | .agg l, v, h, hr => by
   simp only [Rip.flat] at h
   simp only [ao] at hr ⊢
   obtain ⟨vs, h1, h2, h3⟩ := hr
   exact ⟨vs, h1, h2, ax.flat l _ h h3⟩
 | .aN l, v, h, hr => by
   simp only [Rip.flat] at h
   simp only [ao] at hr ⊢
   obtain ⟨vs, h1, h3⟩ := hr
   exact ⟨vs, h1, ax.flat l _ h h3⟩
theorem ax.flat {g g' : Gh} : ∀ (l : List AV) (vs : List Value), xF l = true -> ax g l vs -> ax g' l vs
 | [], vs, _, h => by cases vs <;> simp_all [ax]
 | x :: xs, vs, h, hr => by
   simp only [xF, bM] at h
   simp only [ax] at hr ⊢
   obtain ⟨v, vs', h1, h2, h3⟩ := hr
   exact ⟨v, vs', h1, ao.flat x v h.1 h2, ax.flat xs vs' h.2 h3⟩
end
theorem ae.E8 {C : bX} {f : Nat} {args args0 : List AV} {U : St} {R : cu -> St -> Prop} {x : AV} (d : Nat) (xQ : ∀ i, closed (C.ui i) = true)
 (hw : ∀ g vs, ax g (args.map (resolve d U)) vs -> ax g args0 vs) (hargs : bS args0 = true) (hx : flat x = true) (h : Pure C f args0 x) (hR : R (.ret x) U) : ae C f args U R := by
 intro g w vs hs hG ha
 have NR := hs.x7
 let g0 : Gh := { base := w.heap.size, w0 := w, place := fun _ => none, bI := (g.all w).bI, bo := (g.all w).bo, res := fun _ => false }
 have uw : aS g0 (br ⟨.e, 0⟩) w := {
  below := Below.refl _ _
  le := cG _
  bI := fun q o u hu => sd hs q o u hu
  bo := fun q es c hu => qD hs q es c hu
  live := fun b x hb => by cases hb
  apart := fun b b' x x' p p' hb => by cases hb
  res := fun r hr => by cases hr
  fin := ⟨0, fun n hn => by cases hn; rfl, fun _ _ => rfl⟩ }
 have HP : ff C g0 := ⟨fun i => ao.closed (g := g) (g' := g0) (fun _ _ _ h => NR.bI _ _ _ h) (fun _ _ h => NR.bo _ _ h) _ _ (xQ i) (hG.1 i), fun i cs hi => by
  obtain ⟨k1, t, fr, k2⟩ := hG.2 i cs hi
  refine ⟨Nat.lt_of_lt_of_le k1 hs.le, t, fr, ?_⟩
  show w.heap[i]? = _
  rw [hs.below.block i k1]; exact k2⟩
 have HS : ax g0 args0 vs := ax.closed (g := g.all w) (g' := g0) (fun _ _ _ h => h) (fun _ _ h => h) _ _ hargs (hw _ _ (xg (fun x v _ hr => wz hs d x v hr) ha))
 refine (h (br ⟨.e, 0⟩) (fun r _ => r = .ret x) rfl g0 w vs uw HP HS).mono ?_
 rintro e w' hp
 cases e with
 | panicked ch => obtain ⟨g', ad, y, v, _, _, _, _, hz⟩ := hp; cases hz
 | outgrown => exact hp.elim
 | returned v =>
   obtain ⟨g', ad, y, h1, h2, h3, hz⟩ := hp
   cases hz
   have pt := h2.x7
   have hle := h1.trans pt
   have sv : Below w.heap.size w w' := by
    have := h2.below
    rw [h1.base, h1.w0] at this
    exact this
   let gF : Gh := { base := g.base, w0 := g.w0, place := g.place, bI := g.bI, bo := g.bo, res := g.res }
   have B3 : Gh.Le g gF := ⟨rfl, rfl, fun _ _ h => h, fun b o u hu => hu, fun b u hu => hu, fun _ h => h, fun _ _ _ => rfl, fun _ _ => rfl⟩
   refine ⟨gF, U, x, B3, ?_, ao.flat x v hx h3, hR⟩
   exact {
    below := hs.below.trans (sv.mono hs.le)
    le := Nat.le_trans hs.le sv.size
    bI := fun q o u hu => sd h2 q o u (hle.bI _ _ _ (NR.bI _ _ _ hu))
    bo := fun q es c hu => qD h2 q es c (hle.bo _ _ (NR.bo _ _ hu))
    live := fun b l hb => by
     obtain ⟨p, k1, k2, k3⟩ := hs.live b l hb
     have aK := k3.lt
     exact ⟨p, k1, k2, k3.frame B3.r (sv.block _ aK) (fun o => rfl) rfl⟩
    apart := hs.apart
    res := fun r hr => by
     obtain ⟨k1, k2⟩ := hs.res r hr
     exact ⟨k1, by rw [sv.block _ (gV.1 k2).1]; exact k2⟩
    fin := hs.fin }
inductive Wk : List AV -> List AV -> Prop
 | nil : Wk [] []
 | bf (x : AV) {l l' : List AV} : Wk l l' -> Wk (x :: l) (x :: l')
 | drop (x : AV) {l l' : List AV} : Wk l l' -> Wk (.any :: l) (x :: l')
theorem Wk.rep {g : Gh} {l l' : List AV} (h : Wk l l') : ∀ {vs : List Value}, ax g l' vs -> ax g l vs := by
 induction h with
 | nil => exact fun h => h
 | bf x _ ih =>
   intro vs h
   simp only [ax] at h ⊢
   obtain ⟨u, us, h1, h2, h3⟩ := h
   exact ⟨u, us, h1, h2, ih h3⟩
 | drop x _ ih =>
   intro vs h
   simp only [ax] at h ⊢
   obtain ⟨u, us, h1, h2, h3⟩ := h
   exact ⟨u, us, h1, by simp only [ao], ih h3⟩
theorem Wk.bY {g : Gh} {l l' r : List AV} {vs : List Value} (h : Wk l l') (hr : ax g (.bY l' :: r) vs) : ax g (.bY l :: r) vs := by
 simp only [ax, ao] at hr ⊢
 obtain ⟨u, us, h1, ⟨aB, off, ws, h2, h3, h4⟩, h5⟩ := hr
 exact ⟨u, us, h1, ⟨aB, off, ws, h2, h3, h.rep h4⟩, h5⟩
theorem Wk.any : ∀ (l : List AV), Wk (l.map fun _ => .any) l
 | [] => .nil
 | x :: l => .drop x (Wk.any l)
end Go.Rip
namespace Go.Rip
open Go.RowKit
def aq (vt : Option (Bool × Nat)) (p : AV) (U : St) : aA :=
 match vt, ja U p with
 | some (true, sz), some l => .cond (sz <= l.length) (.val (.agg (l.take sz)))
 | some (false, _), some l => fl l
 | _, _ => .bad
def aF (vt : Option (Bool × Nat)) (p v : AV) (U : St) : aA :=
 match vt, p with
 | some (_, sz), .box b off => match U.box b with
   | some l => .cond (v.cC = true /\ (au v).length = sz /\ off + sz <= l.length) (.iN (.aN []) b (.box (aw l off (au v))))
   | none => .bad
 | _, _ => .bad
def Qt (t : TypeId) (z : Option (List AV)) : aA :=
 match z with
 | some l => Br t l
 | none => .bad
def dV (st : Option (List (Nat × Nat))) (z : Option (List AV)) (at_ : Option (Nat × TypeId × Nat)) (parts : List (Nat × AV)) : aA :=
 match st, z with
 | some pl, some z => ek (fun i => pl[i]?) parts z fun z => .val (.agg z)
 | none, some z => match at_ with
   | some (_, _, sz) => ek (fun i => some (i * sz, sz)) parts z fun z => .val (.agg z)
   | none => .bad
 | _, _ => .bad
def aH (sl : Option (TypeId × Nat)) (z : Option (List AV)) (n : Nat) (mu : Bool) (parts : List (Nat × AV)) : aA :=
 match sl with
 | some (e, sz) => match z with
   | some z => .cond (n * sz <= 16777216) (ek (fun i => some (i * sz, sz)) parts (bw n z) fun cs => .cond (cs.length = n * sz) (if mu then .lf n sz e none cs else .val (.vec n .full cs)))
   | none => .bad
 | none => .bad
def gD (mt : Option (FK × TypeId)) (m k v : AV) (U : St) : aA :=
 match mt, m with
 | some (fk, _), .mp id => match U.mp id with
   | some (ks, vs) => match iU fk k ks 0, mQ fk k with
     | some none, true => .iN (.aN []) id (.mp (eF k v ks vs).1 (eF k v ks vs).2)
     | some (some i), true => .iN (.aN []) id (.mp ks (vs.set i v))
     | _, _ => .bad
   | none => .bad
 | _, _ => .bad
def eM (mt : Option (FK × TypeId)) (z : Option AV) (m k : AV) (ok : Bool) (U : St) : aA :=
 match mt, ju U m with
 | some (fk, e), some (ks, vs) => match z, mQ fk k with
   | some z, true => jz fk k z ok ks vs
   | _, _ => .bad
 | _, _ => .bad
def si (it : Option IntKind) (is : Bool) (ss bs : Bool) (x : AV) : aA :=
 match it, is, x with
 | some .i64, true, .int _ n => .cond (pX n) (.val (.int .i64 n))
 | some k, true, .int _ n => .val (.int k (k.wrap n))
 | none, true, .str s => if ss = true then .val (.str s) else
   if bs = true then .cond (s.length <= 4294967296) (.val (.vec s.length .gl (s.map fun b => .int .u8 b.toNat))) else .bad
 | _, _, _ => .bad
def dh (st : Bool) (sl : Option (TypeId × Nat)) (x : AV) (lo hi : Option AV) : aA :=
 match x with
 | .str s => match st, cJ 0 lo, cJ s.length hi with
   | true, some l, some h => .cond (0 <= l /\ l <= h /\ h <= s.length) (.val (.str ((s.take h.toNat).drop l.toNat)))
   | _, _, _ => .bad
 | .vec n cap l => match sl, cJ 0 lo, cJ n hi with
   | some (_, sz), some a, some b => .cond (0 <= a /\ a <= b /\ b <= n) (.val (.vec (b.toNat - a.toNat) (pZ cap hi) ((l.take (b.toNat * sz)).drop (a.toNat * sz))))
   | _, _, _ => .bad
 | .ag => match sl, cJ 0 lo, cJ 0 hi with
   | some (_, _), some a, some b => .cond (a = 0 /\ b = 0) (.val .ag)
   | _, _, _ => .bad
 | .ms b off n fW e => match sl, cJ 0 lo, cJ n hi with
   | some (_, sz), some a, some h => .cond (0 <= a /\ a <= h /\ h <= n /\ (a < n \/ a = 0) /\ fW = sz) (.val (.ms b (off + a.toNat * sz) (h.toNat - a.toNat) fW e))
   | _, _, _ => .bad
 | _ => .bad
def af (ft : Option Nat) (p : AV) : aA :=
 match ft, p with
 | some o, .box b off => .val (.box b (off + o))
 | some o, .bY l => .val (.bY (l.drop o))
 | _, _ => .bad
def p4 (fv : Option (Nat × Bool × Nat)) (x : AV) : aA :=
 match fv, x with
 | some (o, true, n), .agg l => .cond (o + n <= l.length) (.val (.agg ((l.drop o).take n)))
 | some (o, false, _), .agg l => fl (l.drop o)
 | _, _ => .bad
def Rs (at_ : Option (Nat × TypeId × Nat)) (x i : AV) : aA :=
 match at_, x, i with
 | some (n, _, sz), .bY l, .int _ j => .cond (0 <= j /\ j < n) (.val (.bY (l.drop (j.toNat * sz))))
 | some (n, _, sz), .box b off, .int _ j => .cond (0 <= j /\ j < n) (.val (.box b (off + j.toNat * sz)))
 | _, _, _ => .bad
def aP (sl : Option (TypeId × Nat)) (at_ : Option (Nat × TypeId × Nat)) (x i : AV) : aA :=
 match sl, x, i with
 | none, x, i => Rs at_ x i
 | some (_, sz), .vec n _ l, .int _ j => .cond (0 <= j /\ j < n) (.val (.bY (l.drop (j.toNat * sz))))
 | some (_, sz), .ms b off n fW _, .int _ j => .cond (0 <= j /\ j < n /\ fW = sz) (.val (.box b (off + j.toNat * sz)))
 | _, _, _ => .bad
def fD (st : Bool) (at_ : Option (Nat × TypeId × Nat)) (vt : Option (Bool × Nat)) (x i : AV) : aA :=
 match x, i with
 | .str s, .int _ j => if st = true then .cond (0 <= j /\ j < s.length) (.val (.int .u8 (s.getD j.toNat 0).toNat)) else .bad
 | .agg l, .int _ j => match at_ with
   | some (n, e, sz) => match vt with
     | some (false, _) => .cond (0 <= j /\ j < n) (fl (l.drop (j.toNat * sz)))
     | some (true, k) => .cond (0 <= j /\ j < n /\ k = sz /\ j.toNat * sz + sz <= l.length) (.val (.agg ((l.drop (j.toNat * sz)).take sz)))
     | none => .bad
   | none => .bad
 | _, _ => .bad
def mT (b : Bool) (t : TypeId) (x : AV) : aA := if b = true then .val (.iface t x) else .bad
def uS (mt : Option (FK × TypeId)) (m : AV) : aA :=
 match mt, m with
 | some _, .dY ks vs => .new .it none (.iter (ks.zip vs) none)
 | _, _ => .bad
def q9 (z : Option AV) (x : AV) (t : TypeId) (ok : Bool) : aA :=
 match z, x with
 | some z, .iface u v => if u = t then .val (if ok then .aN [v, .bool true] else v) else if ok then .val (.aN [z, .bool false]) else .bad
 | some z, .cA => if ok then .val (.aN [z, .bool false]) else .bad
 | _, _ => .bad
def yc (sl : Option (TypeId × Nat)) (z : Option (List AV)) (mu : Bool) (l c : AV) : aA :=
 match sl, l, c with
 | some (e, sz), .int _ l, .int _ c => match z with
   | some z => .cond (0 <= l /\ l = c /\ c <= 65536) (if mu then .lf l.toNat sz e none (bw l.toNat z) else .jS l.toNat (bw l.toNat z) none ⟨l.toNat, e, sz⟩)
   | none => .bad
 | _, _, _ => .bad
def xz (sl : Option (TypeId × Nat)) (z : Option (List AV)) (x : AV) (U : St) : aA :=
 match sl, x with
 | some (e, sz), .ms b off n fW _ => match U.box b, z with
   | some l, some z => .cond (fW = sz /\ off + n * sz <= l.length) (.iN (.aN []) b (.box (aw l off (bw n z))))
   | _, _ => .bad
 | _, _ => .bad
def bU (lt : Option Bool) (x : AV) : aA :=
 match lt, x with
 | some true, .str s => .val (.int .i64 s.length)
 | some false, .vec n _ _ => .val (.int .i64 n)
 | some false, .ms _ _ n _ _ => .val (.int .i64 n)
 | some false, .ag => .val (.int .i64 0)
 | _, _ => .bad
def dS (ap : Option (TypeId × Nat)) (mu : Bool) (s y : AV) (U : St) : aA :=
 match ap, oF U y with
 | some (e, sz), some (m, l2) =>
   .cond (l2.length = m * sz) (match s with
   | .ag => if m = 0 then .val .ag else .cond (m <= 4294967296) (if mu then .lf m sz e none l2 else .jS m l2 none ⟨m, e, sz⟩)
   | .vec n .full l => if m = 0 then .val s else .cond (l.length = n * sz /\ n + m <= 4294967296) (.jS (n + m) (l ++ l2) none ⟨n + m, e, sz⟩)
   | .vec n (.own τ) l => .cond (U.tok τ = some ⟨n, e, sz⟩ /\ l.length = n * sz /\ n + m <= 4294967296) (.jS (n + m) (l ++ l2) (some τ) ⟨n + m, e, sz⟩)
   | .ms b off n fW e' => match U.box b with
     | some l => .cond (off = 0 /\ fW = sz /\ e' = e /\ n * sz <= l.length /\ n + m <= 4294967296) (.lf (n + m) sz e (some b) (l.take (n * sz) ++ l2))
     | none => .bad
   | _ => .bad)
 | _, _ => .bad
structure BT where
 b : Bool
 i : Bool
 p : Bool
 f : Option (List FK)
 s : Bool
def Rw (P : Program) (t : TypeId) : BT := ⟨rJ P t, gT P t, jd P t, FE P t, lY P t⟩
def NG (f : Option (List FK)) (a b : List AV) : Option Bool :=
 match f with
 | some ks => ln ks a b
 | none => none
def av (op : BinOp) (bt : BT) (lit : Bool) (x y : AV) : aA :=
 match op, x, y with
 | .eql, .cA, .cA => if bt.i = true /\ lit = true then .val (.bool true) else .bad
 | .neq, .cA, .cA => if bt.i = true /\ lit = true then .val (.bool false) else .bad
 | .add, .int k a, .int k' b => if k = k' then fA k (a + b) else .bad
 | .sub, .int k a, .int k' b => if k = k' then fA k (a - b) else .bad
 | .mul, .int k a, .int k' b => if k = k' then fA k (a * b) else .bad
 | .quo, .int k a, .int k' b => if k = k' then .cond (b ≠ 0) (fA k (a.tdiv b)) else .bad
 | .rem, .int k a, .int k' b => if k = k' then .cond (b ≠ 0) (.val (.int k (a.tmod b))) else .bad
 | .and, .int k a, .int k' b => if k = k' then .val (.int k (k.wrap (BitVec.ofInt k.bits a &&& BitVec.ofInt k.bits b).toNat)) else .bad
 | .or, .int k a, .int k' b => if k = k' then .val (.int k (k.wrap (BitVec.ofInt k.bits a ||| BitVec.ofInt k.bits b).toNat)) else .bad
 | .eql, .int k a, .int k' b => if k = k' then .val (.bool (a == b)) else .bad
 | .neq, .int k a, .int k' b => if k = k' then .val (.bool (a != b)) else .bad
 | .lss, .int k a, .int k' b => if k = k' then .val (.bool (decide (a < b))) else .bad
 | .leq, .int k a, .int k' b => if k = k' then .val (.bool (decide (a <= b))) else .bad
 | .gtr, .int k a, .int k' b => if k = k' then .val (.bool (decide (a > b))) else .bad
 | .geq, .int k a, .int k' b => if k = k' then .val (.bool (decide (a >= b))) else .bad
 | .eql, .str a, .str b => .val (.bool (a == b))
 | .neq, .str a, .str b => .val (.bool (a != b))
 | .add, .str a, .str b => .cond (a.length + b.length <= 4294967296) (.val (.str (a ++ b)))
 | .eql, .bool a, .bool b => if bt.b = true then .val (.bool (a == b)) else .bad
 | .neq, .bool a, .bool b => if bt.b = true then .val (.bool (a != b)) else .bad
 | .eql, .agg a, .agg b => rh .bool (NG bt.f a b)
 | .neq, .agg a, .agg b => rh (fun r => .bool (!r)) (NG bt.f a b)
 | .eql, .iface _ _, .cA => if bt.i = true then .val (.bool false) else .bad
 | .neq, .iface _ _, .cA => if bt.i = true then .val (.bool true) else .bad
 | .eql, .aT, .aT => if bt.p = true then .val (.bool true) else .bad
 | .eql, .box _ _, .aT => if bt.p = true then .val (.bool false) else .bad
 | .neq, .aT, .aT => if bt.p = true then .val (.bool false) else .bad
 | .neq, .box _ _, .aT => if bt.p = true then .val (.bool true) else .bad
 | .eql, .bY _, .aT => if bt.p = true then .val (.bool false) else .bad
 | .neq, .bY _, .aT => if bt.p = true then .val (.bool true) else .bad
 | .eql, .ag, .ag => if bt.s = true then .val (.bool true) else .bad
 | .eql, .vec _ _ _, .ag => if bt.s = true then .val (.bool false) else .bad
 | .eql, .ms _ _ _ _ _, .ag => if bt.s = true then .val (.bool false) else .bad
 | _, _, _ => .bad
theorem Po (P : Program) (op : BinOp) (t : TypeId) (lit : Bool) (x y : AV) : av op (Rw P t) lit x y = Bv P op t lit x y := by
 unfold av Bv Fo
 cases op <;> cases x <;> cases y <;> rfl
def sb (P : Program) (t : TypeId) : Option (List AV) := match dH P t with
 | some (e, _) => lW P e
 | none => none
def ND (P : Program) (t : TypeId) : Option (Bool × Nat) := match qE P t with
 | some (_, e, _) => kh P e
 | none => none
def Li (P : Program) (t : TypeId) : Option AV := match mU P t with
 | some (_, e) => zeroV P e
 | none => none
def Ln (gt : Option (TypeId × Nat × List AV)) (ap : Option (TypeId × Nat)) (mu : Bool) (s y : AV) (U : St) : aA :=
 match gt with
 | some q => vr q mu s y
 | none => dS ap mu s y U
def Ft (C : bX) (mu : Bool) (c : Call) (ρ : Env) (U : St) : aA :=
 match c.callee, c.argTypes.toList, c.args.toList with
 | .value (.func f), _, args => if dj C.P f = true then .enter f (args.map (ρ.ev C)) else .bad
 | .value f, _, args => fo C.P (ρ.ev C f) (args.map (ρ.ev C))
 | .builtin .len, [t], [x] => bU (Gi C.P t) (ρ.ev C x)
 | .builtin .append, [t, u], [s, y] => Ln (xH C.P t u) (Fl C.P t u) mu (ρ.ev C s) (ρ.ev C y) U
 | .builtin .cap, [t], [x] => tX (dH C.P t) (ρ.ev C x)
 | .builtin .min, _, [x, y] => uE (ρ.ev C x) (ρ.ev C y)
 | .builtin .max, _, [x, y] => wZ (ρ.ev C x) (ρ.ev C y)
 | .builtin .clear, [t], [x] => xz (dH C.P t) (sb C.P t) (ρ.ev C x) U
 | _, _, _ => .bad
def qq (C : bX) (mu : Bool) (o : Op) (ρ : Env) (U : St) : aA :=
 match o with
 | .move x | .assign x => .val (ρ.ev C x)
 | .pick c a b => bF (ρ.ev C c) (ρ.ev C a) (ρ.ev C b)
 | .alloc t => Qt t (lW C.P t)
 | .box _ x => ez (ρ.ev C x)
 | .build t parts => dV (vJ C.P t) (lW C.P t) (qE C.P t) (jb C ρ parts)
 | .buildSlice t n parts => aH (dH C.P t) (sb C.P t) n mu (jb C ρ parts)
 | .insert t m k v | .mapUpdate t m k v => gD (mU C.P t) (ρ.ev C m) (ρ.ev C k) (ρ.ev C v) U
 | .load t a => aq (kh C.P t) (ρ.ev C a) U
 | .store t a v => aF (kh C.P t) (ρ.ev C a) (ρ.ev C v) U
 | .nilCheck x => bh (ρ.ev C x)
 | .binOp op t x y _ => av op (Rw C.P t) (isLit x || isLit y) (ρ.ev C x) (ρ.ev C y)
 | .unOp op _ x => gM op (ρ.ev C x)
 | .convert s d x => si (F8 C.P d) (C.P.underlying s).isSome (jQ C.P d && jQ C.P s) (sD C.P d && jQ C.P s) (ρ.ev C x)
 | .makeInterface t x => mT (uH C.P t) t (ρ.ev C x)
 | .makeFunc fn first cap => .val (.func fn (first.toList.map (ρ.ev C)) (cap.toList.map (ρ.ev C)))
 | .makeMap _ none => .A7
 | .slice t x lo hi none => dh (jQ C.P t) (dH C.P t) (ρ.ev C x) (lo.map (ρ.ev C)) (hi.map (ρ.ev C))
 | .fieldAddr s x f => af (uf C.P s f) (ρ.ev C x)
 | .field s x f => p4 (vq C.P s f) (ρ.ev C x)
 | .indexAddr t x i => aP (dH C.P t) (qE C.P t) (ρ.ev C x) (ρ.ev C i)
 | .index t x i => fD (jQ C.P t) (qE C.P t) (ND C.P t) (ρ.ev C x) (ρ.ev C i)
 | .lookup t m k ok => eM (mU C.P t) (Li C.P t) (ρ.ev C m) (ρ.ev C k) ok U
 | .extract t i => aV (ρ.ev C t) i
 | .panic x => mW (ρ.ev C x)
 | .range t m => uS (mU C.P t) (ρ.ev C m)
 | .typeAssert x _ t ok => q9 (vi C.P t) (ρ.ev C x) t ok
 | .makeSlice t l c => yc (dH C.P t) (sb C.P t) mu (ρ.ev C l) (ρ.ev C c)
 | .next i false => oY (ρ.ev C i) U
 | .entry i => lH (ρ.ev C i) U
 | .call c => Ft C mu c ρ U
 | _ => .bad
theorem Lr (C : bX) (mu : Bool) (c : Call) (ρ : Env) (U : St) : Ft C mu c ρ U = vj C mu c ρ U := by
 unfold Ft vj
 obtain ⟨callee, ⟨args⟩, ⟨OX⟩⟩ := c
 cases callee with
 | value f =>
   cases f <;> simp only [fo, Env.ev, gH, iI]
 | invoke r m => rfl
 | builtin b =>
   cases b
   case clear =>
    dsimp only
    rcases OX with _ | ⟨t, _ | ⟨u, _ | _⟩⟩ <;> rcases args with _ | ⟨x, _ | ⟨y, _ | _⟩⟩ <;> try rfl
    simp only [xz, tZ, sb]
    generalize ρ.ev C x = y
    cases h : dH C.P t with
    | none => rfl
    | some es => (cases es; cases y <;> rfl)
   all_goals first | rfl | (dsimp only; rcases OX with _ | ⟨t, _ | ⟨u, _ | _⟩⟩ <;> rcases args with _ | ⟨x, _ | ⟨y, _ | _⟩⟩ <;> rfl)
theorem od (C : bX) (mu : Bool) (o : Op) (ρ : Env) (U : St) : qq C mu o ρ U = gh C mu o ρ U := by
 cases o with
 | binOp op t x y yt => exact Po _ _ _ _ _ _
 | call c => exact Lr _ _ _ _ _
 | buildSlice t n parts =>
   simp only [qq, gh, aH, nR, sb]
   cases h : dH C.P t with
   | none => rfl
   | some es => (cases es; rfl)
 | index t x i =>
   simp only [qq, gh, fD, xZ, ND]
   generalize ρ.ev C x = y
   generalize ρ.ev C i = z
   cases h : qE C.P t with
   | none => cases y <;> rfl
   | some es => (cases es; cases y <;> cases z <;> rfl)
 | lookup t m k ok =>
   simp only [qq, gh, eM, rM, Li]
   generalize ju U (ρ.ev C m) = y
   cases h : mU C.P t with
   | none => rfl
   | some es => (cases es; cases y <;> rfl)
 | makeSlice t l c =>
   simp only [qq, gh, yc, oW, sb]
   generalize ρ.ev C l = y
   generalize ρ.ev C c = z
   cases h : dH C.P t with
   | none => rfl
   | some es => (cases es; cases y <;> cases z <;> rfl)
 | convert s d x =>
   simp only [qq, gh, si, AZ, bM]
   rfl
 | makeMap t r => cases r <;> rfl
 | slice t x lo hi m => cases m <;> rfl
 | next i b => cases b <;> rfl
 | _ => rfl
end Go.Rip
namespace Go.Rip
open Go.RowKit
def Fn : Nat -> Type
 | 0 => St -> Prop
 | n + 1 => AV -> Fn n
namespace Fn
def app : (n : Nat) -> Fn n -> List AV -> St -> Prop
 | 0, f, _, U => f U
 | n + 1, f, x :: xs, U => app n (f x) xs U
 | n + 1, f, [], U => app n (f .any) [] U
def lam : (n : Nat) -> (List AV -> St -> Prop) -> Fn n
 | 0, F => fun U => F [] U
 | n + 1, F => fun x => lam n (fun xs U => F (x :: xs) U)
theorem mf : ∀ (n : Nat) (F : List AV -> St -> Prop) (xs : List AV) (U : St), xs.length = n -> app n (lam n F) xs U = F xs U
 | 0, F, [], U, _ => rfl
 | n + 1, F, x :: xs, U, h => mf n (fun xs U => F (x :: xs) U) xs U (by simpa using h)
 | 0, F, _ :: _, U, h => by simp at h
 | n + 1, F, [], U, h => by simp at h
def imp : (n : Nat) -> Fn n -> Fn n -> Prop
 | 0, f, g => ∀ U, f U -> g U
 | n + 1, f, g => ∀ x, imp n (f x) (g x)
theorem EG : ∀ {n : Nat} {f g : Fn n}, imp n f g -> ∀ (xs : List AV) (U : St), xs.length = n -> app n f xs U -> app n g xs U
 | 0, f, g, h, xs, U, _, hf => h U hf
 | n + 1, f, g, h, x :: xs, U, hl, hf => EG (h x) xs U (by simpa using hl) hf
 | n + 1, f, g, h, [], U, hl, hf => by simp at hl
theorem Ea : ∀ {n : Nat} {f g : Fn n}, (∀ (xs : List AV) (U : St), xs.length = n -> app n f xs U -> app n g xs U) -> imp n f g
 | 0, f, g, h => fun U hf => h [] U rfl hf
 | n + 1, f, g, h => fun x => Ea fun xs U hl hf => h (x :: xs) U (by simpa using hl) hf
end Fn
def x9 : List Nat -> List AV -> Nat -> AV
 | s :: ss, x :: xs, t => cond (Nat.beq t s) x (x9 ss xs t)
 | _, _, _ => .any
def y6 (live : List Nat) (vs : List AV) : Env := ⟨x9 live vs⟩
theorem As (f : Nat -> AV) (t : Nat) : ∀ live : List Nat, x9 live (live.map f) t = f t \/ x9 live (live.map f) t = .any
 | [] => .inr rfl
 | s :: ss => by
   simp only [dN, x9]
   cases h : Nat.beq t s with
   | true => have := dG h; subst this; exact .inl rfl
   | false => exact As f t ss
theorem zQ (ρ : Env) (live : List Nat) (t : Nat) : (y6 live (live.map ρ.get)).get t = ρ.get t \/ (y6 live (live.map ρ.get)).get t = .any := As ρ.get t live
section
variable {C : bX} {nt : Nat} {ro : Ro} {U : St} {ρ : Env}
theorem aY.Fg {c : Code} {Q : Ex -> Env -> St -> Prop} {cT : Env} (h : aY C nt ro c Q cT U) (hw : ∀ t, cT.get t = ρ.get t \/ cT.get t = .any) : aY C nt ro c Q ρ U :=
 fun g w a fr h1 h2 h3 h4 h5 => h g w a fr h1 h2 (fun t => by
  rcases hw t with e | e
  · rw [e]; exact h3 t
  · rw [e]; simp only [ao]) h4 h5
end
structure Qx where
 n : Env -> St -> Prop
 e : Nat -> Env -> St -> Prop
 r : Env -> St -> Prop
 p : AV -> St -> Prop
def Qx.q (Q : Qx) : Ex -> Env -> St -> Prop
 | .normal, ρ, U => Q.n ρ U
 | .exit i, ρ, U => Q.e i ρ U
 | .ret, ρ, U => Q.r ρ U
 | .panic x, _, U => Q.p x U
def Vl (ops : Array Oper) (j : Nat) : Option Nat := (ops[j]?).bind (·.dst)
def aI (v : AV) (want : Bool) : AV := match v with
 | .bool b => .bool (b == want)
 | .aN [] => .bool false
 | _ => .any
def BN (ops : Array Oper) (ρ : Env) (jw : Nat × Bool) : AV := match Vl ops jw.1 with
 | some d => aI (ρ.get d) jw.2
 | none => .any
theorem BO (ops : Array Oper) (ρ : Env) (jw : Nat × Bool) : eV ops ρ (some jw) = BN ops ρ jw := rfl
def zx (b : Bool) (v : AV) : AV := match b with
 | true => v
 | false => .aN []
def dr (C : bX) (b : Bool) : aA -> (AV -> Prop) -> Prop
 | .val v, k => k (zx b v)
 | @aA.cond p _ r, k => (b = true -> p) /\ dr C b r k
 | .enter f args, k => ∃ v, (b = true -> Pure C f args v) /\ k (zx b v)
 | _, k => b = false /\ k (.aN [])
def aj (C : bX) (gv : AV) (r : aA) (k : AV -> Prop) : Prop := match gv with
 | .bool b => dr C b r k
 | _ => False
theorem wv {C : bX} : ∀ (r : aA) {k : AV -> Prop}, dr C true r k -> ∃ v, r.yv C v /\ k v
 | .val v, k, h => ⟨v, rfl, h⟩
 | @aA.cond _ _ r, k, h => let ⟨v, h1, h2⟩ := wv r h.2; ⟨v, ⟨h.1 rfl, h1⟩, h2⟩
 | .enter _ _, k, h => let ⟨v, h1, h2⟩ := h; ⟨v, h1 rfl, h2⟩
 | .iN _ _ _, _, h => by cases h.1
 | .new _ _ _, _, h => by cases h.1
 | .il _ _, _, h => by cases h.1
 | .yield _ _, _, h => by cases h.1
 | .panic _, _, h => by cases h.1
 | .bad, _, h => by cases h.1
theorem uO {C : bX} : ∀ (r : aA) {k : AV -> Prop}, dr C false r k -> k (.aN [])
 | .val v, k, h => h
 | @aA.cond _ _ r, k, h => uO r h.2
 | .enter _ _, k, h => let ⟨v, h1, h2⟩ := h; h2
 | .iN _ _ _, _, h => h.2
 | .new _ _ _, _, h => h.2
 | .il _ _, _, h => h.2
 | .yield _ _, _, h => h.2
 | .panic _, _, h => h.2
 | .bad, _, h => h.2
theorem uP {C : bX} {gv : AV} {r : aA} {k : AV -> Prop} (h : aj C gv r k) : (gv = .bool true /\ ∃ v, r.yv C v /\ k v) \/ (gv = .bool false /\ k (.aN [])) := by
 cases gv <;> simp only [aj] at h
 rename_i b
 cases b
 · exact .inr ⟨rfl, uO r h⟩
 · exact .inl ⟨rfl, wv r h⟩
def Tb (pf : List Nat) (o : Op) : Bool := match o with
 | .call c => match c.callee with
   | .value (.func f) => pf.any fun g => Nat.beq g f
   | .value _ => false
   | _ => quiet o
 | o => quiet o
def Cr (C : bX) (o : Op) (ρ : Env) : Option AV := match o with
 | .move x | .assign x => some (ρ.ev C x)
 | .makeFunc fn first cap => some (.func fn (first.toList.map (ρ.ev C)) (cap.toList.map (ρ.ev C)))
 | _ => none
theorem zh {C : bX} {o : Op} {ρ : Env} {v : AV} (h : Cr C o ρ = some v) (mu : Bool) (U : St) : qq C mu o ρ U = .val v := by
 unfold Cr at h
 split at h
 · cases h; rfl
 · cases h; rfl
 · cases h; rfl
 · cases h
def qQ (C : bX) (mu pf : List Nat) (ops : Array Oper) : List Oper -> Env -> St -> (Env -> St -> Prop) -> (AV -> St -> Prop) -> Prop
 | [], ρ, U, K, _ => K ρ U
 | o :: rest, ρ, U, K, Kp => match o.guard with
   | none => match Cr C o.op ρ with
     | some v => qQ C mu pf ops rest (ρ.dk o.dst v) U K Kp
     | none => (qq C (lA mu o) o.op ρ U).wp C U (fun v U => qQ C mu pf ops rest (ρ.dk o.dst v) U K Kp) Kp
   | some jw => match Tb pf o.op with
     | true => aj C (BN ops ρ jw) (qq C (lA mu o) o.op ρ U) (fun v => qQ C mu pf ops rest (ρ.dk o.dst v) U K Kp)
     | false => az (BN ops ρ jw) ((qq C (lA mu o) o.op ρ U).wp C U (fun v U => qQ C mu pf ops rest (ρ.dk o.dst v) U K Kp) Kp)
       (qQ C mu pf ops rest (ρ.dk o.dst (.aN [])) U K Kp)
theorem rQ {C : bX} {mu pf : List Nat} {ops : Array Oper} {K : Env -> St -> Prop} {Kp : AV -> St -> Prop} : ∀ (l : List Oper) (ρ : Env) (U : St),
 qQ C mu pf ops l ρ U K Kp -> lC C mu ops l ρ U K Kp
 | [], _, _, h => h
 | o :: rest, ρ, U, h => by
   have step : ∀ {r : aA}, r.wp C U (fun v U => qQ C mu pf ops rest (ρ.dk o.dst v) U K Kp) Kp ->
    r.wp C U (fun v ad => lC C mu ops rest (ρ.dk o.dst v) ad K Kp) Kp := fun hr => aA.wp_mono (fun v ad hv => rQ rest _ _ hv) _ hr
   simp only [qQ] at h
   simp only [lC]
   show az (eV ops ρ o.guard) ((gh C (lA mu o) o.op ρ U).wp C U (fun v ad => lC C mu ops rest (ρ.dk o.dst v) ad K Kp) Kp) (lC C mu ops rest (ρ.dk o.dst (.aN [])) U K Kp)
   rw [<- od]
   cases hg : o.guard with
   | none =>
     rw [hg] at h
     simp only at h
     refine ⟨fun _ => ?_, fun hf => (by cases hf)⟩
     split at h
     · rename_i v hv
       rw [zh hv]
       exact rQ rest _ _ h
     · exact step h
   | some jw =>
     rw [hg] at h
     simp only at h
     rw [BO]
     split at h
     · rcases uP h with ⟨hb, v, hv, hk⟩ | ⟨hb, hk⟩
       · rw [hb]
         refine ⟨fun _ => ?_, fun hf => (by cases hf)⟩
         exact aA.Hh _ hv (rQ rest _ _ hk)
       · rw [hb]
         exact ⟨fun hf => (by cases hf), fun _ => rQ rest _ _ hk⟩
     · cases hv : BN ops ρ jw <;> rw [hv] at h <;> simp only [az] at h ⊢
       exact ⟨fun e => step (h.1 e), fun e => rQ rest _ _ (h.2 e)⟩
def ai (C : bX) : aA -> (AV -> Prop) -> Prop
 | .val v, k => k v
 | @aA.cond p _ r, k => p /\ ai C r k
 | .enter f args, k => ∃ v, Pure C f args v /\ k v
 | _, _ => False
theorem AA {C : bX} : ∀ (r : aA) {k : AV -> Prop}, ai C r k -> ∃ v, r.yv C v /\ k v
 | .val v, k, h => ⟨v, rfl, h⟩
 | @aA.cond _ _ r, k, h => let ⟨v, h1, h2⟩ := AA r h.2; ⟨v, ⟨h.1, h1⟩, h2⟩
 | .enter _ _, k, h => h
 | .iN _ _ _, _, h => h.elim
 | .new _ _ _, _, h => h.elim
 | .il _ _, _, h => h.elim
 | .yield _ _, _, h => h.elim
 | .panic _, _, h => h.elim
 | .bad, _, h => h.elim
def BW (C : bX) (ρ : Env) (o : Op) : List Nat := o.operands.toList.flatMap fun x => bV (ρ.ev C x)
def Te (b : Bool) (P k : Prop) : Prop := match b with
 | true => P /\ k
 | false => k
def SJ (b : Bool) (P k : Prop) : Prop := match b with
 | true => k
 | false => P /\ k
theorem It {ops : Array Oper} {i : Nat} {I : St -> Prop} {U : St} {k : Prop} (h : SJ (ik ops i) (I U) k) : Ix ops I i U /\ k := by
 unfold Ix
 cases ha : ik ops i <;> rw [ha] at h <;> simp only [SJ] at h
 · exact ⟨.inr h.1, h.2⟩
 · exact ⟨.inl rfl, h⟩
def yj (C : bX) (ops : Array Oper) (ρ : Env) (g : Option (Nat × Bool)) (i : Option AV) (r : aA) (k : AV -> Prop) : Prop := match g with
 | none => match i with
   | some v => k v
   | none => ai C r k
 | some jw => aj C (BN ops ρ jw) r k
def gW (ops : Array Oper) (ρ : Env) (g : Option (Nat × Bool)) (A B : Prop) : Prop := match g with
 | none => A
 | some jw => az (BN ops ρ jw) A B
def lg (C : bX) (mu : List Nat) (ops : Array Oper) (ay : St) (K : Env -> St -> Prop) (Kp : AV -> St -> Prop) (B : List Nat) : List (Bool × Nat) -> Env -> St -> Prop
 | [], ρ, U => K ρ U
 | (true, i) :: r, ρ, U => match ops[i]? with
   | none => False
   | some o => match quiet o.op with
     | false => False
     | true => Te (lj o.op) (∀ b ∈ BW C ρ o.op, b ∈ B) (yj C ops ρ o.guard (Cr C o.op ρ) (qq C (lA mu o) o.op ρ ay) fun v => lg C mu ops ay K Kp B r (ρ.dk o.dst v) U)
 | (false, i) :: r, ρ, U => match ops[i]? with
   | none => False
   | some o => gW ops ρ o.guard ((qq C (lA mu o) o.op ρ U).wp C U (fun v U => SJ (ik ops i) (bG B ay U) (lg C mu ops ay K Kp B r (ρ.dk o.dst v) U)) Kp)
      (lg C mu ops ay K Kp B r (ρ.dk o.dst (.aN [])) U)
def A9 (C : bX) (mu : List Nat) (ops : Array Oper) (ay : St) (K : Env -> St -> Prop) (Kp : AV -> St -> Prop) : List (Bool × Nat) -> List Nat -> Env -> St -> Prop
 | [], _, ρ, U => K ρ U
 | (true, i) :: r, B, ρ, U => match ops[i]? with
   | none => False
   | some o => match quiet o.op with
     | false => False
     | true => yj C ops ρ o.guard (Cr C o.op ρ) (qq C (lA mu o) o.op ρ ay) fun v => A9 C mu ops ay K Kp r (match lj o.op with | true => BW C ρ o.op ++ B | false => B) (ρ.dk o.dst v) U
 | (false, i) :: r, B, ρ, U => lg C mu ops ay K Kp B ((false, i) :: r) ρ U
section
variable {C : bX} {mu : List Nat} {ops : Array Oper} {ay : St} {K : Env -> St -> Prop} {Kp : AV -> St -> Prop}
theorem BK {ρ : Env} {g : Option (Nat × Bool)} {A B : Prop} (h : gW ops ρ g A B) : (eV ops ρ g = .bool true /\ A) \/ (eV ops ρ g = .bool false /\ B) := by
 unfold gW at h
 cases g with
 | none => exact .inl ⟨rfl, h⟩
 | some jw =>
   simp only at h
   rw [BO]
   cases hv : BN ops ρ jw <;> rw [hv] at h <;> simp only [az] at h
   rename_i b
   cases b
   · exact .inr ⟨rfl, h.2 rfl⟩
   · exact .inl ⟨rfl, h.1 rfl⟩
theorem uQ {ρ : Env} {g : Option (Nat × Bool)} {i : Option AV} {r : aA} {k : AV -> Prop} (hi : ∀ v, i = some v -> r = .val v) (h : yj C ops ρ g i r k) : (eV ops ρ g = .bool true /\ ∃ v, r.yv C v /\ k v) \/ (eV ops ρ g = .bool false /\ k (.aN [])) := by
 unfold yj at h
 cases g with
 | none =>
   cases i with
   | none => exact .inl ⟨rfl, AA r h⟩
   | some v => rw [hi v rfl]; exact .inl ⟨rfl, v, rfl, h⟩
 | some jw => simp only at h; rw [BO]; exact uP h
theorem xP {ρ : Env} {o : Op} {x : Operand} (hx : x ∈ o.operands.toList) {b : Nat} (hb : b ∈ bV (ρ.ev C x)) : b ∈ BW C ρ o := List.mem_flatMap.2 ⟨x, hx, hb⟩
theorem mx (B : List Nat) : ∀ (l : List (Bool × Nat)) (ρ : Env) (U : St), lg C mu ops ay K Kp B l ρ U -> jD C mu ops B ay K Kp l ρ U
 | [], _, _, h => h
 | (true, i) :: r, ρ, U, h => by
   simp only [lg] at h
   split at h
   · exact h.elim
   · rename_i o ho
     split at h
     · exact h.elim
     · rename_i hq
       have key : ∀ {P k : Prop}, Te (lj o.op) P k -> (lj o.op = true -> P) /\ k := fun {P k} h => by
        cases hr : lj o.op <;> rw [hr] at h <;> simp only [Te] at h
        · exact ⟨fun h => (by cases h), h⟩
        · exact ⟨fun _ => h.1, h.2⟩
       obtain ⟨hB, h⟩ := key h
       rcases uQ (fun v hv => zh hv _ _) h with ⟨hg, v, hv, hk⟩ | ⟨hg, hk⟩
       · rw [od] at hv
         exact ⟨o, v, ho, .inl ⟨hg, hq, fun hr x hx b hb => hB hr b (xP hx hb), hv⟩, mx B r _ _ hk⟩
       · exact ⟨o, .aN [], ho, .inr ⟨hg, rfl⟩, mx B r _ _ hk⟩
 | (false, i) :: r, ρ, U, h => by
   simp only [lg] at h
   simp only [jD, ix]
   split at h
   · exact h.elim
   · rename_i o ho
     rw [ho]
     simp only
     rw [od] at h
     rcases BK h with ⟨hg, h⟩ | ⟨hg, h⟩
     · rw [hg]
       exact ⟨fun _ => aA.wp_mono (fun v U hv => ⟨(It (I := bG B ay) hv).1, mx B r _ _ (It (I := bG B ay) hv).2⟩) _ h, fun h => by cases h⟩
     · rw [hg]
       exact ⟨fun h => (by cases h), fun _ => mx B r _ _ h⟩
theorem zn : ∀ (l : List (Bool × Nat)) (B : List Nat) (ρ : Env) (U : St), A9 C mu ops ay K Kp l B ρ U -> ∃ B', (∀ b ∈ B, b ∈ B') /\ jD C mu ops B' ay K Kp l ρ U
 | [], B, _, _, h => ⟨B, fun _ h => h, h⟩
 | (true, i) :: r, B, ρ, U, h => by
   simp only [A9] at h
   split at h
   · exact h.elim
   · rename_i o ho
     split at h
     · exact h.elim
     · rename_i hq
       rcases uQ (fun v hv => zh hv _ _) h with ⟨hg, v, hv, hk⟩ | ⟨hg, hk⟩
       · rw [od] at hv
         obtain ⟨B', hB, hA⟩ := zn r _ _ _ hk
         refine ⟨B', fun b hb => hB b ?_, o, v, ho, .inl ⟨hg, hq, fun hr x hx b hb => hB b ?_, hv⟩, hA⟩
         · split
           · exact List.mem_append_right _ hb
           · exact hb
         · rw [hr]; exact List.mem_append_left _ (xP hx hb)
       · obtain ⟨B', hB, hA⟩ := zn r _ _ _ hk
         refine ⟨B', fun b hb => hB b ?_, o, .aN [], ho, .inr ⟨hg, rfl⟩, hA⟩
         split
         · exact List.mem_append_right _ hb
         · exact hb
 | (false, i) :: r, B, ρ, U, h => ⟨B, fun _ h => h, mx B _ _ _ h⟩
end
def uK (C : bX) (mu : List Nat) (ops : Array Oper) (ay : St) (Kp : AV -> St -> Prop) (B : List Nat) (o : Oper) (K : Env -> St -> Prop) (ρ : Env) (U : St) : Prop :=
 gW ops ρ o.guard ((qq C (lA mu o) o.op ρ U).wp C U (fun v U => bG B ay U /\ K (ρ.dk o.dst v) U) Kp) (K (ρ.dk o.dst (.aN [])) U)
def GV (C : bX) (mu : List Nat) (ops : Array Oper) (ay : St) (K : Env -> St -> Prop) (Kp : AV -> St -> Prop) (B : List Nat) (i j : Nat) (post : List (Bool × Nat)) (ρ : Env) (U : St) : Prop := match ops[i]?, ops[j]? with
 | some oi, some oj => uK C mu ops ay Kp B oi (fun ρ U => uK C mu ops ay Kp B oj (fun ρ U => lg C mu ops ay K Kp B post ρ U) ρ U) ρ U /\
    uK C mu ops ay Kp B oj (fun ρ U => uK C mu ops ay Kp B oi (fun ρ U => lg C mu ops ay K Kp B post ρ U) ρ U) ρ U
 | _, _ => False
def GU (ops : Array Oper) (pre : List (Bool × Nat)) (i j : Nat) (post : List (Bool × Nat)) : Bool :=
 (match kJ ops pre (Array.replicate ops.size false) with
   | some l => (Region.ready .any ops l == [i, j]) && ((Region.ready .any ops (l.setIfInBounds i true) == [j]) && ((Region.ready .any ops (l.setIfInBounds j true) == [i]) && (!Nat.beq i j && fi ops post ((l.setIfInBounds i true).setIfInBounds j true))))
   | none => false) && Nat.beq (pre.length + (post.length + 2)) ops.size
section
variable {C : bX} {mu : List Nat} {ops : Array Oper} {ay : St} {K : Env -> St -> Prop} {Kp : AV -> St -> Prop} {B : List Nat}
theorem Ay {i : Nat} {o : Oper} {K0 K1 : Env -> St -> Prop} {I' : St -> Prop} (ho : ops[i]? = some o) (hI : ∀ U, bG B ay U -> I' U) (hk : ∀ ρ U, bG B ay U -> K0 ρ U -> K1 ρ U) {ρ : Env} {U : St} (hs : bG B ay U) (h : uK C mu ops ay Kp B o K0 ρ U) : ix C mu ops I' i K1 Kp ρ U := by
 unfold ix
 rw [ho]
 dsimp only
 unfold uK at h
 rw [od] at h
 rcases BK h with ⟨hg, h⟩ | ⟨hg, h⟩
 · rw [hg]
   exact ⟨fun _ => aA.wp_mono (fun v U hv => ⟨hI _ hv.1, hk _ _ hv.1 hv.2⟩) _ h, fun h => by cases h⟩
 · rw [hg]
   exact ⟨fun h => (by cases h), fun _ => hk _ _ hs h⟩
theorem Qh {i j : Nat} {post : List (Bool × Nat)} {mH : Array Bool} (h1 : Region.ready .any ops mH = [i, j]) (h2 : Region.ready .any ops (mH.setIfInBounds i true) = [j]) (h3 : Region.ready .any ops (mH.setIfInBounds j true) = [i]) (et : i ≠ j)
 (h4 : fi ops post ((mH.setIfInBounds i true).setIfInBounds j true) = true) {ρ : Env} {U : St} (hD : Dn ops mH) (hI : bG B ay U) (h : GV C mu ops ay K Kp B i j post ρ U) : iZ C mu ops (bG B ay) K Kp (post.length + 2) mH ρ U := by
 unfold GV at h
 split at h
 · rename_i oi oj NZ kF
   have key : ∀ (a b : Nat) (oa ob : Oper), ops[a]? = some oa -> ops[b]? = some ob -> a ∈ Region.ready .any ops mH -> Region.ready .any ops (mH.setIfInBounds a true) = [b] -> fi ops post ((mH.setIfInBounds a true).setIfInBounds b true) = true ->
    uK C mu ops ay Kp B oa (fun ρ U => uK C mu ops ay Kp B ob (fun ρ U => lg C mu ops ay K Kp B post ρ U) ρ U) ρ U ->
    ix C mu ops (Ix ops (bG B ay) a) a (iZ C mu ops (bG B ay) K Kp (post.length + 1) (mH.setIfInBounds a true)) Kp ρ U := by
    intro a b oa ob hoa hob hra Ez mM hw
    refine Ay hoa (fun _ h => .inr h) (fun XJ bH tF hw1 => ?_) hI hw
    refine ⟨fun h0 => (by rw [Ez] at h0; cases h0), fun c hc => ?_⟩
    have En := hc
    rw [Ez, kM] at hc
    subst hc
    exact Ay hob (fun _ h => .inr h) (fun nq bJ wc N8 => og post _ nq bJ mM ((hD.set hra).set En) (.inr wc) (mx B _ _ _ N8)) tF hw1
   refine ⟨fun h0 => (by rw [h1] at h0; cases h0), fun c hc => ?_⟩
   have En := hc
   rw [h1] at hc
   simp only [dA, List.not_mem_nil, or_false] at hc
   rcases hc with rfl | rfl
   · exact key _ _ _ _ NZ kF En h2 h4 h.1
   · exact key _ _ _ _ kF NZ En h3 (by rw [Array.setIfInBounds_comm _ _ et.symm]; exact h4) h.2
 · exact h.elim
theorem oN {I : St -> Prop} {Kp tq : AV -> St -> Prop} (hp : ∀ v U, Kp v U -> tq v U) : ∀ (n : Nat) (listed : Array Bool) (ρ : Env) (U : St), iZ C mu ops I K Kp n listed ρ U -> iZ C mu ops I K tq n listed ρ U
 | 0, _, _, _, h => h
 | n + 1, listed, ρ, U, h => ⟨h.1, fun i hi => by
   have h2 := h.2 i hi
   unfold ix at h2 ⊢
   split
   · rename_i ho; rw [ho] at h2; exact oN hp n _ _ _ h2
   · rename_i o ho
     rw [ho] at h2
     dsimp only at h2 ⊢
     cases hg : eV ops ρ o.guard <;> rw [hg] at h2 <;> simp only [az] at h2 ⊢
     exact ⟨fun e => aA.wp_mono (fun v U hv => ⟨hv.1, oN hp n _ _ _ hv.2⟩) _ (aA.xp hp _ (h2.1 e)), fun e => oN hp n _ _ _ (h2.2 e)⟩⟩
theorem aY.Jb {nt id : Nat} {ro : Ro} {Q : Ex -> Env -> St -> Prop} {ρ : Env} {U : St} (pre : List (Bool × Nat)) (i j : Nat) (post : List (Bool × Nat)) (hm : C.P.follows .mixedOrders = true) (ca : iu nt ops = true) (hp : GU ops pre i j post = true) (NP : ∀ v U, Kp v U -> tt Q v U)
 (h : lg C mu ops U (fun cT ad => GV C mu ops U (KQ Q) Kp B i j post cT ad) Kp B pre ρ U) : aY C nt ro (.region id ops true) Q ρ U := by
 simp only [GU, bM] at hp
 obtain ⟨h1, h2⟩ := hp
 have h2 := dG h2
 split at h1
 · rename_i l hl
   simp only [bM, beq_iff_eq, Bool.not_eq_true'] at h1
   obtain ⟨k1, k2, k3, k4, k5⟩ := h1
   have et : i ≠ j := fun e => by subst e; simp at k4
   refine aY.uU mu (bG B U) hm ca (oN NP _ _ _ _ ?_)
   have := sN (fun cT ad hD hI hw => Qh k1 k2 k3 et k5 hD hI hw) pre _ ρ U hl (Dn.none _ _) (fun _ _ => rfl) (mx B _ _ _ h)
   rw [h2] at this
   exact this
 · cases h1
end
structure Qr where
 EI : (St -> Prop) -> St -> Prop
 n : St -> Prop
 e : Nat -> St -> Prop
 r : St -> Prop
def oG : Nat -> Type
 | 0 => Qr -> St -> Prop
 | n + 1 => AV -> oG n
def oG.app : (n : Nat) -> oG n -> List AV -> Qr -> St -> Prop
 | 0, f, _, q, U => f q U
 | n + 1, f, x :: xs, q, U => oG.app n (f x) xs q U
 | n + 1, f, [], q, U => oG.app n (f .any) [] q U
def oG.lam : (n : Nat) -> (List AV -> Qr -> St -> Prop) -> oG n
 | 0, F => fun q U => F [] q U
 | n + 1, F => fun x => oG.lam n (fun xs q U => F (x :: xs) q U)
theorem oG.mf : ∀ (n : Nat) (F : List AV -> Qr -> St -> Prop) (xs : List AV) (q : Qr) (U : St), xs.length = n -> oG.app n (oG.lam n F) xs q U = F xs q U
 | 0, F, [], q, U, _ => rfl
 | n + 1, F, x :: xs, q, U, h => oG.mf n (fun xs U => F (x :: xs) U) xs q U (by simpa using h)
 | 0, F, _ :: _, q, U, h => by simp at h
 | n + 1, F, [], q, U, h => by simp at h
def ey.st (L : ey) (s : LoopState) (p : Option Code) : ey := { L with state := s, ee := p }
def YC (o : Nat) (k : St -> Prop) (U : St) : Prop := ∃ L, U.loop o = some L /\ L.state = .ready /\ k (U.set o (.loop { L with state := .busy }))
def YE (o : Nat) (R : cu -> St -> Prop) : Qr where
 EI := YC o
 n := fun U => ∃ L, U.loop o = some L /\ R (.ret (.bool true)) (U.set o (.loop { L with state := .ready, ee := none }))
 e := fun id U => ∃ L, U.loop o = some L /\ R (.ret (.bool false)) (U.set o (.loop { L with state := .done, ee := some (.exit id) }))
 r := fun U => ∃ L, U.loop o = some L /\ R (.ret (.bool false)) (U.set o (.loop { L with state := .done, ee := some .ret }))
def I9 (o : Nat) (Kn : St -> Prop) (Ke : Nat -> St -> Prop) (Kr : St -> Prop) (Kp : AV -> St -> Prop) : cu -> St -> Prop
 | .ret _, ad => ∃ L, ad.loop o = some L /\ L.state ≠ .busy /\ (match L.ee with
   | none => Kn (ad.del o)
   | some .ret => Kr (ad.del o)
   | some (.exit id) => Ke id (ad.del o)
   | _ => False)
 | .panic x, ad => Kp x ad
def rT (C : bX) (np : Nat) (fv : AV) (U : St) (B : oG np) (Kn : St -> Prop) (Ke : Nat -> St -> Prop) (Kr : St -> Prop) (Kp : AV -> St -> Prop) : Prop :=
 match fv with
 | .func (.func gu) first cap => dj C.P gu = true /\ ∀ (o : Nat) (L : ey), U.cB o -> L.state = .ready -> L.ee = none ->
   (∀ (args : List AV) (bH : St) (R : cu -> St -> Prop) (L1 : ey), args.length = np -> bH.loop o = some L1 -> L1.st .ready none = L -> oG.app np B args (YE o R) bH -> iY C o args bH R) ->
   ae C gu (first ++ [.oy o] ++ cap) (U.new o (.loop L)) (I9 o Kn Ke Kr Kp)
 | _ => False
def HG (b : Bool) (A B : Prop) : Prop := match b with
 | true => A
 | false => B
def gC (n : Nat) (J : Fn n) (B : Fn n -> Prop) : Prop := ∀ j : Fn n, Fn.imp n J j -> B j
def dQ (n : Nat) (init : List AV) (U : St) (B : Fn n -> Fn n) : Prop :=
 ∃ I : Nat -> Fn n, (∃ m, Fn.app n (I m) init U) /\ ∀ m, Fn.imp n (I m) (B (Fn.lam n fun vs U => ∃ m', m' < m /\ Fn.app n (I m') vs U))
inductive An where
 | z
 | sq (live : Option (List Nat)) (a b : An)
 | cd (a b : An)
 | bk (a : An)
 | lp (live : List Nat) (a : An)
 | rg (mu pf : List Nat) (cM : Option Pl)
 | rb (mu : List Nat) (cM : Pl)
 | r2 (mu : List Nat) (pre : List (Bool × Nat)) (i j : Nat) (post : List (Bool × Nat))
 | rf (a b : An)
def ko (C : bX) : Code -> An -> Qx -> Env -> St -> Prop
 | .skip, _, Q, ρ, U => Q.n ρ U
 | .exit i, _, Q, ρ, U => Q.e i ρ U
 | .ret, _, Q, ρ, U => Q.r ρ U
 | .seq a b, .sq none x y, Q, ρ, U => ko C a x { Q with n := fun ρ U => ko C b y Q ρ U } ρ U
 | .seq a b, .sq (some live) x y, Q, ρ, U => gC live.length (Fn.lam live.length fun vs U => ko C b y Q (y6 live vs) U)
    fun j => ko C a x { Q with n := fun ρ U => Fn.app live.length j (live.map ρ.get) U } ρ U
 | .cond c a b, .cd x y, Q, ρ, U => az (ρ.ev C c) (ko C a x Q ρ U) (ko C b y Q ρ U)
 | .block i a, .bk x, Q, ρ, U => ko C a x { Q with e := fun k ρ U => HG (Nat.beq k i) (Q.n ρ U) (Q.e k ρ U) } ρ U
 | .loop a, .lp live x, Q, ρ, U => dQ live.length (live.map ρ.get) U fun lp => Fn.lam live.length fun vs U =>
    ko C a x { Q with n := fun ρ U => Fn.app live.length lp (live.map ρ.get) U } (y6 live vs) U
 | .region _ ops false, .rg mu pf none, Q, ρ, U => qQ C mu pf ops ops.toList ρ U Q.n Q.p
 | .region _ ops true, .rg mu pf (some cM), Q, ρ, U => A9 C mu ops U Q.n Q.p cM.steps [] ρ U
 | .region _ ops true, .rb mu cM, Q, ρ, U => ∃ B : List Nat, lg C mu ops U Q.n Q.p B cM.steps ρ U
 | .region _ ops true, .r2 mu pre i j post, Q, ρ, U => ∃ B : List Nat, lg C mu ops U (fun cT ad => GV C mu ops U Q.n Q.p B i j post cT ad) Q.p B pre ρ U
 | .rangeFunc f ps a b, .rf x y, Q, ρ, U => rT C ps.size (ρ.ev C f) U (oG.lam ps.size fun args qr U => ko C a x
    { n := fun ρ U => qr.EI (fun U => ko C b y { n := fun _ U => qr.n U, e := fun i _ U => qr.e i U, r := fun _ U => qr.r U, p := fun _ _ => False } ρ U) U, e := fun _ _ _ => False, r := fun _ _ => False, p := fun _ _ => False }
    ⟨sR ρ.get ps.toList args⟩ U) (fun U => Q.n ρ U) (fun i U => Q.e i ρ U) (fun U => Q.r ρ U) (fun x U => Q.p x U)
 | _, _, _, _, _ => False
def jg (nt : Nat) : Bool -> Code -> An -> Bool
 | _, .skip, _ => true
 | _, .exit _, _ => true
 | _, .ret, _ => true
 | top, .seq a b, .sq _ x y => jg nt top a x && jg nt top b y
 | top, .cond _ a b, .cd x y => jg nt top a x && jg nt top b y
 | top, .block _ a, .bk x => jg nt top a x
 | top, .loop a, .lp _ x => jg nt top a x
 | _, .region _ ops false, .rg _ _ none => iu nt ops
 | _, .region _ ops true, .rg _ _ (some cM) => iu nt ops && GA ops cM
 | _, .region _ ops true, .rb _ cM => iu nt ops && GA ops cM
 | _, .region _ ops true, .r2 _ pre i j post => iu nt ops && GU ops pre i j post
 | top, .rangeFunc _ ps a b, .rf x y => top && ps.toList.all (fun t => Nat.blt t nt) && jg nt false a x && jg nt false b y
 | _, _, _ => false
theorem vd {C : bX} {nt : Nat} (hm : C.P.follows .mixedOrders = true) : ∀ (c : Code) (an : An) (top : Bool) (ro : Ro) (Q : Qx) (ρ : Env) (U : St), jg nt top c an = true -> (top = true -> ro = .fn) ->
 ko C c an Q ρ U -> aY C nt ro c Q.q ρ U := by
 intro c
 induction c with
 | skip => intro an top ro Q ρ U ca ht h; exact aY.skip h
 | exit i => intro an top ro Q ρ U ca ht h; exact aY.exit h
 | ret => intro an top ro Q ρ U ca ht h; exact aY.ret h
 | seq a b uy EE =>
   intro an top ro Q ρ U ca ht h
   cases an <;> simp only [jg, bu, bM] at ca
   rename_i live x y
   refine aY.seq ?_
   cases live with
   | none =>
     simp only [ko] at h
     refine (uy x top ro _ ρ U ca.1 ht h).mono fun e ρ U he => ?_
     cases e <;> first | exact EE y top ro Q ρ U ca.2 ht he | exact he
   | some live =>
     simp only [ko] at h
     have := h (Fn.lam live.length fun vs U => aY C nt ro b Q.q (y6 live vs) U) (Fn.Ea fun xs U hl hx => by
      rw [Fn.mf _ _ _ _ hl] at hx ⊢
      exact EE y top ro Q _ _ ca.2 ht hx)
     refine (uy x top ro _ ρ U ca.1 ht this).mono fun e ρ U he => ?_
     cases e with
     | normal =>
       have iL : Fn.app live.length (Fn.lam live.length fun vs U => aY C nt ro b Q.q (y6 live vs) U) (live.map ρ.get) U := he
       rw [Fn.mf _ _ _ _ (by simp)] at iL
       exact aY.Fg iL (zQ ρ live)
     | exit i => exact he
     | ret => exact he
     | panic x => exact he
 | cond c a b uy EE =>
   intro an top ro Q ρ U ca ht h
   cases an <;> simp only [jg, bu, bM] at ca
   rename_i x y
   simp only [ko] at h
   cases hc : ρ.ev C c <;> rw [hc] at h <;> simp only [az] at h
   exact aY.cond hc (fun e => uy x top ro Q ρ U ca.1 ht (h.1 e)) (fun e => EE y top ro Q ρ U ca.2 ht (h.2 e))
 | block i a uy =>
   intro an top ro Q ρ U ca ht h
   cases an <;> simp only [jg, bu] at ca
   rename_i x
   simp only [ko] at h
   refine aY.block ((uy x top ro _ ρ U ca ht h).mono fun e ρ U he => ?_)
   cases e with
   | exit k =>
     have iL : HG (Nat.beq k i) (Q.n ρ U) (Q.e k ρ U) := he
     simp only [tV]
     cases hb : Nat.beq k i with
     | true => rw [hb] at iL; rw [if_pos (dG hb)]; exact iL
     | false => rw [hb] at iL; rw [if_neg (fun e => by subst e; simp at hb)]; exact iL
   | normal => exact he
   | ret => exact he
   | panic x => exact he
 | loop a uy =>
   intro an top ro Q ρ U ca ht h
   cases an <;> simp only [jg, bu] at ca
   rename_i live x
   simp only [ko] at h
   obtain ⟨I, ⟨m, h0⟩, hr⟩ := h
   refine aY.loop (fun m ρ U => Fn.app live.length (I m) (live.map ρ.get) U) (n := m) h0 fun m ρ U hI => ?_
   have := Fn.EG (hr m) _ _ (by simp) hI
   rw [Fn.mf _ _ _ _ (by simp)] at this
   refine aY.Fg ((uy x top ro _ _ _ ca ht this).mono fun e cT ad he => ?_) (zQ ρ live)
   cases e with
   | normal =>
     have iL : Fn.app live.length (Fn.lam live.length fun vs U => ∃ m', m' < m /\ Fn.app live.length (I m') vs U) (live.map cT.get) ad := he
     rw [Fn.mf _ _ _ _ (by simp)] at iL
     exact iL
   | exit i => exact he
   | ret => exact he
   | panic x => exact he
 | region id ops draw =>
   intro an top ro Q ρ U ca ht h
   have kp : tt Q.q = fun x U => ∀ ρ : Env, Q.p x U := rfl
   cases draw with
   | false =>
     cases an with
     | rg mu pf cM =>
       cases cM with
       | none =>
         simp only [jg] at ca
         simp only [ko] at h
         refine aY.region mu ca ?_
         have h2 := rQ _ ρ U h
         exact qs (fun _ _ h => h) (fun v U hv ρ => hv) _ h2
       | some cM => simp [jg] at ca
     | _ => simp [jg] at ca
   | true =>
     cases an with
     | rg mu pf cM =>
       cases cM with
       | none => simp [jg] at ca
       | some cM =>
         simp only [jg, bM] at ca
         simp only [ko] at h
         obtain ⟨B, _, hA⟩ := zn _ _ _ _ h
         refine aY.sZ mu B cM.steps hm ca.1 (EZ ca.2) ?_
         exact gG (fun _ _ h => h) (fun v U hv ρ => hv) _ hA
     | rb mu cM =>
       simp only [jg, bM] at ca
       simp only [ko] at h
       obtain ⟨B, hB⟩ := h
       refine aY.sZ mu B cM.steps hm ca.1 (EZ ca.2) ?_
       exact gG (fun _ _ h => h) (fun v U hv ρ => hv) _ (mx B _ _ _ hB)
     | r2 mu pre i j post =>
       simp only [jg, bM] at ca
       simp only [ko] at h
       obtain ⟨B, hB⟩ := h
       exact aY.Jb (mu := mu) (B := B) pre i j post hm ca.1 ca.2 (fun v U hv ρ => hv) hB
     | _ => simp [jg] at ca
 | rangeFunc f ps a b uy EE =>
   intro an top ro Q ρ U ca ht h
   cases an <;> simp only [jg, bu, bM] at ca
   rename_i x y
   obtain ⟨⟨⟨h1, h2⟩, h3⟩, h4⟩ := ca
   have Cf := ht h1
   subst Cf
   simp only [ko, rT] at h
   split at h
   · rename_i gu first cap hf
     obtain ⟨pn, h⟩ := h
     refine aY.rangeFunc 0 hf pn fun o ho => ?_
     refine (h o ⟨ρ.get, nt, ps, a, b, .ready, none, 0⟩ ho rfl rfl ?_).mono fun r ad hr => ?_
     · intro args bH R L1 hl oc eL hB
       obtain ⟨r1, r2, r3, r4, r5, r6, r7, r8⟩ := L1
       simp only [ey.st, ey.mk.injEq, true_and] at eL
       obtain ⟨e1, e2, e3, e4, e5, e6⟩ := eL
       subst e1 e2 e3 e4 e5 e6
       rw [oG.mf _ _ _ _ _ hl] at hB
       refine iY.CM oc (by simpa using hl) (fun t ht => by
        have := eh.1 h2 t ht
        exact Nat.le_of_ble_eq_true this) ?_
       refine (uy x false (.round o) _ _ _ h3 (fun h => by cases h) hB).mono fun e cT ad he => ?_
       cases e with
       | normal =>
         obtain ⟨L, k1, k2, k3⟩ := he
         refine ⟨L, k1, k2, (EE y false (.round o) _ _ _ h4 (fun h => by cases h) k3).mono fun e nq bJ he => ?_⟩
         cases e with
         | normal => exact he
         | exit i => exact he
         | ret => exact he
         | panic x => exact he
       | exit i => exact he
       | ret => exact he
       | panic x => exact he
     · cases r with
       | ret v =>
         obtain ⟨L, k1, k2, k3⟩ := hr
         refine ⟨L, k1, k2, ?_⟩
         split at k3
         · rename_i hp; rw [hp]; exact k3
         · rename_i hp; rw [hp]; exact k3
         · rename_i hp; rw [hp]; exact k3
         · exact k3.elim
       | panic v => exact hr
   · exact h.elim
 | scope a uy => intro an top ro Q ρ U ca; cases an <;> simp [jg] at ca
 | label l => intro an top ro Q ρ U ca; cases an <;> simp [jg] at ca
 | goto l => intro an top ro Q ρ U ca; cases an <;> simp [jg] at ca
 | refuse w => intro an top ro Q ρ U ca; cases an <;> simp [jg] at ca
def bA (vt : Option (Bool × Nat)) (p : AV) (U : St) (k : AV -> Prop) : Prop := match aq vt p U with
 | .val v => k v
 | @aA.cond q _ (.val v) => q /\ k v
 | _ => False
def zr (P : Program) (ρ : Env) (U : St) : List ResultVar -> (List AV -> Prop) -> Prop
 | [], k => k []
 | .tmp t :: rs, k => zr P ρ U rs fun vs => k (ρ.get t :: vs)
 | .cell t ty :: rs, k => bA (kh P ty) (ρ.get t) U fun v => zr P ρ U rs fun vs => k (v :: vs)
theorem rU {P : Program} {ρ : Env} {U : St} : ∀ (l : List ResultVar) (k : List AV -> Prop), zr P ρ U l k -> qT P ρ U l k
 | [], _, h => h
 | .tmp t :: rs, k, h => rU rs _ h
 | .cell t ty :: rs, k, h => by
   simp only [zr, bA] at h
   simp only [qT, vD]
   rw [show qk P ty (ρ.get t) U = aq (kh P ty) (ρ.get t) U from rfl]
   split at h
   · rename_i hl; rw [hl]; exact rU rs _ h
   · rename_i hl; rw [hl]; exact ⟨h.1, rU rs _ h.2⟩
   · exact h.elim
def al (R : cu -> St -> Prop) (x : AV) (U : St) : Prop := ∃ x' ad, kr x U x' ad /\ R (.ret x') ad
def aa (R : cu -> St -> Prop) (x : AV) (U : St) : Prop := R (.panic x) U
def YN (P : Program) (fn : Func) (R : cu -> St -> Prop) : Qx where
 n := fun ρ U => zr P ρ U fn.results.toList fun vs => al R (qY vs) U
 e := fun _ _ _ => False
 r := fun ρ U => zr P ρ U fn.results.toList fun vs => al R (qY vs) U
 p := aa R
def Fq (C : bX) (fn : Func) (an : An) (args : List AV) (R : cu -> St -> Prop) (U : St) : Prop := match fn.body with
 | some c => ko C c an (YN C.P fn R) (Env.gg args) U
 | none => False
def okF (fn : Func) (an : An) (n : Nat) : Bool := match fn.body with
 | some c => jg fn.ntmps true c an && Nat.ble n fn.ntmps
 | none => false
theorem ae.PT {C : bX} (hm : C.P.follows .mixedOrders = true) {f : FuncId} {fn : Func} (an : An) {args : List AV} {R : cu -> St -> Prop} {U : St} (hf : C.P.funcs[f]? = some fn) (ca : okF fn an args.length = true)
 (h : Fq C fn an args R U) : ae C f args U R := by
 unfold okF at ca
 unfold Fq at h
 split at ca
 · rename_i c hb
   rw [hb] at h
   simp only [bM] at ca
   refine ae.EU hf hb (Nat.le_of_ble_eq_true ca.2) ?_
   refine (vd hm c an true .fn _ _ _ ca.1 (fun _ => rfl) h).mono fun e ρ U he => ?_
   cases e with
   | normal => exact rU _ _ he
   | ret => exact rU _ _ he
   | panic x => exact he
   | exit i => exact he
 · cases ca
theorem al.mk {R : cu -> St -> Prop} {x : AV} {U : St} (h : R (.ret x) U) : al R x U := ⟨x, U, kr.refl _ _, h⟩
end Go.Rip
namespace Go.Rip
open Go.RowKit
section
variable {C : bX} {U : St} {K : AV -> St -> Prop} {Kp : AV -> St -> Prop}
@[simp] theorem ah (v : AV) : (aA.val v).wp C U K Kp = K v U := rfl
@[simp] theorem iB (v : AV) (b : Nat) (x : Live) : (aA.iN v b x).wp C U K Kp = K v (U.set b x) := rfl
@[simp] theorem lR (k : NV) (x : Live) : (aA.new k none x).wp C U K Kp = ∀ b, U.cB b -> K (k.at b) (U.new b x) := rfl
@[simp] theorem Zm (k : NV) (d : Nat) (x : Live) : (aA.new k (some d) x).wp C U K Kp = ∀ b, (U.del d).cB b -> K (k.at b) ((U.del d).new b x) := rfl
@[simp] theorem hP (f : FuncId) (args : List AV) : (aA.enter f args).wp C U K Kp = ae C f args U (ar K Kp) := rfl
@[simp] theorem xq (f : Nat) (args : List AV) : (aA.yield f args).wp C U K Kp = iY C f args U (ar K Kp) := rfl
@[simp] theorem NB (v : AV) : (aA.panic v).wp C U K Kp = Kp v U := rfl
@[simp] theorem wp_cond (p : Prop) [Decidable p] (r : aA) : (aA.cond p r).wp C U K Kp = (p /\ r.wp C U K Kp) := rfl
@[simp] theorem aab : aA.bad.wp C U K Kp = False := rfl
@[simp] theorem aac (p : Prop) [Decidable p] (r s : aA) : (if p then r else s).wp C U K Kp = if p then r.wp C U K Kp else s.wp C U K Kp := by split <;> rfl
@[simp] theorem bz (x : AV) : ar K Kp (.ret x) U = K x U := rfl
@[simp] theorem UA (x : AV) : ar K Kp (.panic x) U = Kp x U := rfl
end
@[simp] theorem UB (b : Bool) (A B : Prop) : az (.bool b) A B = ((b = true -> A) /\ (b = false -> B)) := rfl
theorem bq (A B : Prop) : az (.bool true) A B = A := by simp [az]
theorem a7 (A B : Prop) : az (.bool false) A B = B := by simp [az]
theorem bE (p : Prop) [Decidable p] (A B : Prop) : az (.bool (decide p)) A B = ((p -> A) /\ (¬ p -> B)) := by simp [az]
@[simp] theorem aW (b w : Bool) : aI (.bool b) w = .bool (b == w) := rfl
@[simp] theorem Zh (w : Bool) : aI (.aN []) w = .bool false := rfl
@[simp] theorem kP (v : AV) : zx true v = v := rfl
@[simp] theorem Tg (v : AV) : zx false v = .aN [] := rfl
@[simp] theorem aM (C : bX) (b : Bool) (r : aA) (k : AV -> Prop) : aj C (.bool b) r k = dr C b r k := rfl
@[simp] theorem mZ (C : bX) (b : Bool) (v : AV) (k : AV -> Prop) : dr C b (.val v) k = k (zx b v) := rfl
@[simp] theorem UD (C : bX) (b : Bool) (p : Prop) [Decidable p] (r : aA) (k : AV -> Prop) : dr C b (.cond p r) k = ((b = true -> p) /\ dr C b r k) := rfl
@[simp] theorem Ta (C : bX) (b : Bool) (f : FuncId) (args : List AV) (k : AV -> Prop) : dr C b (.enter f args) k = ∃ v, (b = true -> Pure C f args v) /\ k (zx b v) := rfl
@[simp] theorem cc (C : bX) (k : AV -> Prop) : ∀ r : aA, (dr C false r k) = k (.aN [])
 | .val v => rfl
 | @aA.cond _ _ r => by simp only [dr]; rw [cc C k r]; simp
 | .enter _ _ => by simp [dr]
 | .iN _ _ _ => by simp [dr]
 | .new _ _ _ => by simp [dr]
 | .il _ _ => by simp [dr]
 | .yield _ _ => by simp [dr]
 | .panic _ => by simp [dr]
 | .bad => by simp [dr]
@[simp] theorem aC (C : bX) (v : AV) (k : AV -> Prop) : ai C (.val v) k = k v := rfl
@[simp] theorem fq (C : bX) (p : Prop) [Decidable p] (r : aA) (k : AV -> Prop) : ai C (.cond p r) k = (p /\ ai C r k) := rfl
@[simp] theorem CU (C : bX) (f : FuncId) (args : List AV) (k : AV -> Prop) : ai C (.enter f args) k = ∃ v, Pure C f args v /\ k v := rfl
theorem qu (C : bX) (k : AV -> Prop) : ∀ r : aA, dr C true r k = ai C r k
 | .val v => rfl
 | @aA.cond _ _ r => by simp only [dr, ai, qu C k r]; simp
 | .enter _ _ => by simp [dr, ai]
 | .iN _ _ _ => by simp [dr, ai]
 | .new _ _ _ => by simp [dr, ai]
 | .il _ _ => by simp [dr, ai]
 | .yield _ _ => by simp [dr, ai]
 | .panic _ => by simp [dr, ai]
 | .bad => by simp [dr, ai]
@[simp] theorem bZ (C : bX) (k : AV -> Prop) (r : aA) : dr C true r k = ai C r k := qu C k r
theorem yi (C : bX) (k : AV -> Prop) (r : aA) (p : Prop) [Decidable p] : dr C (decide p) r k = ((p -> ai C r k) /\ (¬ p -> k (.aN []))) := by
 by_cases h : p <;> simp [h]
theorem wu (C : bX) (k : AV -> Prop) (r : aA) (p : Prop) [Decidable p] : dr C (!decide p) r k = ((p -> k (.aN [])) /\ (¬ p -> ai C r k)) := by
 by_cases h : p <;> simp [h]
@[simp] theorem aJ (b : Bool) (x y : AV) : bF (.bool b) x y = .val (if b = true then x else y) := rfl
@[simp] theorem ite_bool (b x y : Bool) : (if b = true then AV.bool x else AV.bool y) = .bool (if b = true then x else y) := by split <;> rfl
section
variable (bt : BT) (l : Bool) (k : IntKind) (a b : Int) (s t : List UInt8)
@[simp] theorem bl : av .eql bt l (.int k a) (.int k b) = .val (.bool (decide (a = b))) := by simp only [av, if_true]; rfl
@[simp] theorem cO : av .neq bt l (.int k a) (.int k b) = .val (.bool (!decide (a = b))) := by simp only [av, if_true]; rfl
@[simp] theorem bP : av .lss bt l (.int k a) (.int k b) = .val (.bool (decide (a < b))) := by simp only [av, if_true]
@[simp] theorem jU : av .leq bt l (.int k a) (.int k b) = .val (.bool (decide (a <= b))) := by simp only [av, if_true]
@[simp] theorem eO : av .gtr bt l (.int k a) (.int k b) = .val (.bool (decide (b < a))) := by simp only [av, if_true, gt_iff_lt]
@[simp] theorem gI : av .geq bt l (.int k a) (.int k b) = .val (.bool (decide (b <= a))) := by simp only [av, if_true, ge_iff_le]
@[simp] theorem iC : av .add bt l (.int k a) (.int k b) = fA k (a + b) := by simp only [av, if_true]
@[simp] theorem dP : av .sub bt l (.int k a) (.int k b) = fA k (a - b) := by simp only [av, if_true]
@[simp] theorem Dv : av .mul bt l (.int k a) (.int k b) = fA k (a * b) := by simp only [av, if_true]
@[simp] theorem Uz : av .quo bt l (.int k a) (.int k b) = .cond (b ≠ 0) (fA k (a.tdiv b)) := by simp only [av, if_true]
@[simp] theorem Dw : av .rem bt l (.int k a) (.int k b) = .cond (b ≠ 0) (.val (.int k (a.tmod b))) := by simp only [av, if_true]
@[simp] theorem nQ : av .eql bt l (.str s) (.str t) = .val (.bool (decide (s = t))) := by
 show aA.val (.bool (s == t)) = _
 rw [show (s == t) = decide (s = t) from nf.2 (by simp)]
@[simp] theorem qF : av .neq bt l (.str s) (.str t) = .val (.bool (!decide (s = t))) := by
 show aA.val (.bool (s != t)) = _
 rw [show (s != t) = !decide (s = t) from nf.2 (by simp)]
@[simp] theorem Uw : av .add bt l (.str s) (.str t) = .cond (s.length + t.length <= 4294967296) (.val (.str (s ++ t))) := rfl
@[simp] theorem Ru (x y : Bool) (i p : Bool) (f : Option (List FK)) (sl : Bool) : av .eql ⟨true, i, p, f, sl⟩ l (.bool x) (.bool y) = .val (.bool (x == y)) := by simp only [av, if_true]
@[simp] theorem Bw (x y : Bool) (i p : Bool) (f : Option (List FK)) (sl : Bool) : av .neq ⟨true, i, p, f, sl⟩ l (.bool x) (.bool y) = .val (.bool (x != y)) := by simp only [av, if_true]
@[simp] theorem Ux (x y : List AV) (i p q : Bool) (f : List FK) (sl : Bool) : av .eql ⟨q, i, p, some f, sl⟩ l (.agg x) (.agg y) = rh .bool (ln f x y) := rfl
@[simp] theorem Uy (x y : List AV) (i p q : Bool) (f : List FK) (sl : Bool) : av .neq ⟨q, i, p, some f, sl⟩ l (.agg x) (.agg y) = rh (fun r => .bool (!r)) (ln f x y) := rfl
@[simp] theorem XA (f : Bool -> AV) (r : Bool) : rh f (some r) = .val (f r) := rfl
@[simp] theorem dt (x : Bool) : gM .not (.bool x) = .val (.bool (!x)) := rfl
@[simp] theorem db : fA .i64 a = .cond (pX a) (.val (.int .i64 a)) := rfl
@[simp] theorem Lo : fA .u8 a = .val (.int .u8 (IntKind.u8.wrap a)) := rfl
end
theorem aX {n : Int} (h1 : -9223372036854775808 <= n) (h2 : n <= 9223372036854775807) : pX n := ⟨h1, h2⟩
section
variable (sz b o : Nat) (p v : AV) (U : St) (L l : List AV)
theorem pD {U : St} {b : Nat} {L : List AV} (h : U.box b = some L) (n o : Nat) : aq (some (false, n)) (.box b o) U = fl (L.drop o) := by simp [aq, ja, h]
theorem IB {U : St} {b : Nat} {L : List AV} (h : U.box b = some L) (n o : Nat) : aq (some (true, n)) (.box b o) U = .cond (n <= (L.drop o).length) (.val (.agg ((L.drop o).take n))) := by simp [aq, ja, h]
@[simp] theorem ql : aq (some (false, sz)) (.bY L) U = fl L := rfl
@[simp] theorem Gq : aq (some (true, sz)) (.bY L) U = .cond (sz <= L.length) (.val (.agg (L.take sz))) := rfl
@[simp] theorem cY (x : AV) : fl (x :: L) = .val x := rfl
theorem jr {U : St} {b : Nat} {L : List AV} (h : U.box b = some L) (t : Bool) (n o : Nat) (v : AV) : aF (some (t, n)) (.box b o) v U = .cond (v.cC = true /\ (au v).length = n /\ o + n <= L.length) (.iN (.aN []) b (.box (aw L o (au v)))) := by simp [aF, h]
@[simp] theorem cW : bh (.box b o) = .val (.box b o) := rfl
@[simp] theorem AS : bh (.bY L) = .val (.bY L) := rfl
@[simp] theorem Qk (f : Nat) (x y : List AV) : bh (.func (.func f) x y) = .val (.func (.func f) x y) := rfl
@[simp] theorem aU (k : Nat) : af (some k) (.box b o) = .val (.box b (o + k)) := rfl
@[simp] theorem cQ (k : Nat) : af (some k) (.bY L) = .val (.bY (L.drop k)) := rfl
@[simp] theorem FA (k n : Nat) : p4 (some (k, false, n)) (.agg L) = fl (L.drop k) := rfl
@[simp] theorem Vi (k n : Nat) : p4 (some (k, true, n)) (.agg L) = .cond (k + n <= L.length) (.val (.agg ((L.drop k).take n))) := rfl
@[simp] theorem tI (e n : Nat) (c : hX) (k : IntKind) (j : Int) (at_ : Option (Nat × TypeId × Nat)) : aP (some (e, sz)) at_ (.vec n c L) (.int k j) = .cond (0 <= j /\ j < n) (.val (.bY (L.drop (j.toNat * sz)))) := rfl
@[simp] theorem SH (e n z t : Nat) (k : IntKind) (j : Int) (at_ : Option (Nat × TypeId × Nat)) : aP (some (e, sz)) at_ (.ms b o n z t) (.int k j) = .cond (0 <= j /\ j < n /\ z = sz) (.val (.box b (o + j.toNat * sz))) := rfl
@[simp] theorem Ah (s : List UInt8) (k : IntKind) (j : Int) (at_ : Option (Nat × TypeId × Nat)) (vt : Option (Bool × Nat)) : fD true at_ vt (.str s) (.int k j) = .cond (0 <= j /\ j < s.length) (.val (.int .u8 (s.getD j.toNat 0).toNat)) := by simp [fD]
@[simp] theorem kZ (s : List UInt8) : bU (some true) (.str s) = .val (.int .i64 s.length) := rfl
@[simp] theorem rL (n : Nat) (c : hX) : bU (some false) (.vec n c L) = .val (.int .i64 n) := rfl
@[simp] theorem Iw (n z e : Nat) : bU (some false) (.ms b o n z e) = .val (.int .i64 n) := rfl
@[simp] theorem len_nil : bU (some false) .ag = .val (.int .i64 0) := rfl
@[simp] theorem bL (k : Nat) : aV (.aN L) k = fl (L.drop k) := rfl
@[simp] theorem Ht : au (.agg L) = L := rfl
@[simp] theorem Hu (k : IntKind) (n : Int) : au (.int k n) = [.int k n] := rfl
@[simp] theorem zN (s : List UInt8) : au (.str s) = [.str s] := rfl
@[simp] theorem Vb (x : Bool) : au (.bool x) = [.bool x] := rfl
@[simp] theorem Wm : au (.box b o) = [.box b o] := rfl
@[simp] theorem Wn (n : Nat) (c : hX) : au (.vec n c L) = [.vec n c L] := rfl
@[simp] theorem XP (n z e : Nat) : au (.ms b o n z e) = [.ms b o n z e] := rfl
@[simp] theorem Ps : au .ag = [.ag] := rfl
@[simp] theorem Ry : au .aT = [.aT] := rfl
@[simp] theorem Vd (f : Go.Fn) (x y : List AV) : au (.func f x y) = [.func f x y] := rfl
@[simp] theorem Vc (x y : List AV) : au (.dY x y) = [.dY x y] := rfl
@[simp] theorem XO (m : Nat) : au (.mp m) = [.mp m] := rfl
@[simp] theorem Me : (AV.agg L).cC = true := rfl
@[simp] theorem Mf (k : IntKind) (n : Int) : (AV.int k n).cC = true := rfl
@[simp] theorem Mg (s : List UInt8) : (AV.str s).cC = true := rfl
@[simp] theorem Xg (x : Bool) : (AV.bool x).cC = true := rfl
@[simp] theorem Yx : (AV.box b o).cC = true := rfl
@[simp] theorem Yy (n : Nat) (c : hX) : (AV.vec n c L).cC = true := rfl
@[simp] theorem Zj (n z e : Nat) : (AV.ms b o n z e).cC = true := rfl
@[simp] theorem Qj : AV.ag.cC = true := rfl
@[simp] theorem UC : AV.aT.cC = true := rfl
@[simp] theorem Xi (f : Go.Fn) (x y : List AV) : (AV.func f x y).cC = true := rfl
@[simp] theorem Xh (x y : List AV) : (AV.dY x y).cC = true := rfl
@[simp] theorem Zi (m : Nat) : (AV.mp m).cC = true := rfl
@[simp] theorem zM (h : v.cC = true) : ez v = .cond True (.cj (au v)) := by simp [ez, h]
@[simp] theorem om (s : List UInt8) (sl : Option (TypeId × Nat)) (lo hi : Option AV) : dh true sl (.str s) lo hi = (match cJ 0 lo, cJ s.length hi with
 | some l, some h => .cond (0 <= l /\ l <= h /\ h <= s.length) (.val (.str ((s.take h.toNat).drop l.toNat)))
 | _, _ => .bad) := by
 simp only [dh]
 cases cJ 0 lo <;> cases cJ (s.length : Int) hi <;> rfl
@[simp] theorem eT (d : Int) : cJ d none = some d := rfl
@[simp] theorem eJ (d : Int) (k : IntKind) (n : Int) : cJ d (some (.int k n)) = some n := rfl
@[simp] theorem uY (e n : Nat) (c : hX) (lo hi : Option AV) (st : Bool) : dh st (some (e, sz)) (.vec n c L) lo hi = (match cJ 0 lo, cJ n hi with
 | some a, some b => .cond (0 <= a /\ a <= b /\ b <= n) (.val (.vec (b.toNat - a.toNat) (pZ c hi) ((L.take (b.toNat * sz)).drop (a.toNat * sz))))
 | _, _ => .bad) := by
 simp only [dh]
 cases cJ 0 lo <;> cases cJ (n : Int) hi <;> rfl
@[simp] theorem Zk (k : IntKind) (a b : Int) : wZ (.int k a) (.int k b) = .val (.int k (if b > a then b else a)) := by simp [wZ]
@[simp] theorem PL (k : IntKind) (a b : Int) : uE (.int k a) (.int k b) = .val (.int k (if b < a then b else a)) := by simp [uE]
end
theorem al.eq {R : cu -> St -> Prop} {x y : AV} {U : St} (h : R (.ret y) U) (e : x = y) : al R x U := by subst e; exact al.mk h
theorem Pure.go {C : bX} {f : FuncId} {args : List AV} {x : AV} {K : AV -> St -> Prop} {Kp : AV -> St -> Prop} {U : St} (h : Pure C f args x) (hk : K x U) : ae C f args U (ar K Kp) := h U _ hk
end Go.Rip
