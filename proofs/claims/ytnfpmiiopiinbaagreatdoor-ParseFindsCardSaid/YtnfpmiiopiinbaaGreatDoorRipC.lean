/- Lemmas for the proof: no conditions. -/
import Derived.Test.YtnfpmiiopiinbaaGreatDoorRipZz
import Derived.Test.YtnfpmiiopiinbaaGreatDoorRipB
set_option linter.unusedVariables false
set_option linter.unusedSimpArgs false
set_option linter.loopingSimpArgs false
namespace Go.Rip
open Go.RowKit
mutual
def flat : AV -> Bool
 | .bool _ | .int _ _ | .str _ | .a7 | .al | .jT | .cZ | .cN => true
 | .iface _ v => flat v
 | .agg l => yy l
 | .aQ l => yy l
 | _ => false
def yy : List AV -> Bool
 | [] => true
 | x :: xs => flat x && yy xs
end
mutual
theorem ay.flat {g g' : Gh} : ∀ (x : AV) (v : Value), flat x = true -> ay g x v -> ay g' x v
 | .bool _, _, _, hr => hr
 | .int _ _, _, _, hr => hr
 | .str _, _, _, hr => hr
 | .a7, _, _, hr => hr
 | .al, _, _, hr => hr
 | .jT, _, _, hr => hr
 | .cZ, _, _, hr => hr
 | .cN, _, _, hr => hr
 | .iface t x, v, h, hr => by
   simp only [Rip.flat] at h
   simp only [ay] at hr ⊢
   obtain ⟨u, h1, h2⟩ := hr
   exact ⟨u, h1, ay.flat x u h h2⟩
 | .agg l, v, h, hr => by
   simp only [Rip.flat] at h
   simp only [ay] at hr ⊢
   obtain ⟨vs, h1, h2, h3⟩ := hr
   exact ⟨vs, h1, h2, aD.flat l _ h h3⟩
 | .aQ l, v, h, hr => by
   simp only [Rip.flat] at h
   simp only [ay] at hr ⊢
   obtain ⟨vs, h1, h3⟩ := hr
   exact ⟨vs, h1, aD.flat l _ h h3⟩
theorem aD.flat {g g' : Gh} : ∀ (l : List AV) (vs : List Value), yy l = true -> aD g l vs -> aD g' l vs
 | [], vs, _, h => by cases vs <;> simp_all [aD]
 | x :: xs, vs, h, hr => by
   simp only [yy, bN] at h
   simp only [aD] at hr ⊢
   obtain ⟨v, vs', h1, h2, h3⟩ := hr
   exact ⟨v, vs', h1, ay.flat x v h.1 h2, aD.flat xs vs' h.2 h3⟩
end
theorem af.R5 {C : cu} {f : Nat} {args args0 : List AV} {U : St} {R : cB -> St -> Prop} {x : AV} (d : Nat) (yG : ∀ i, closed (C.u6 i) = true)
 (hw : ∀ g vs, aD g (args.map (resolve d U)) vs -> aD g args0 vs) (hargs : bU args0 = true) (hx : flat x = true) (h : Pure C f args0 x) (hR : R (.ret x) U) : af C f args U R := by
 intro g w vs hs hG ha
 have PN := hs.yW
 let g0 : Gh := { base := w.heap.size, w0 := w, place := fun _ => none, bM := (g.all w).bM, bH := (g.all w).bH, res := fun _ => false }
 have ri : aY g0 (bD ⟨.e, 0⟩) w := {
  below := Below.refl _ _
  le := df _
  bM := fun q o u hu => tj hs q o u hu
  bH := fun q es c hu => rO hs q es c hu
  live := fun b x hb => by cases hb
  apart := fun b b' x x' p p' hb => by cases hb
  res := fun r hr => by cases hr
  fin := ⟨0, fun n hn => by cases hn; rfl, fun _ _ => rfl⟩ }
 have Iy : fP C g0 := ⟨fun i => ay.closed (g := g) (g' := g0) (fun _ _ _ h => PN.bM _ _ _ h) (fun _ _ h => PN.bH _ _ h) _ _ (yG i) (hG.1 i), fun i cs hi => by
  obtain ⟨k1, t, fr, k2⟩ := hG.2 i cs hi
  refine ⟨Nat.lt_of_lt_of_le k1 hs.le, t, fr, ?_⟩
  show w.heap[i]? = _
  rw [hs.below.block i k1]; exact k2⟩
 have Uo : aD g0 args0 vs := aD.closed (g := g.all w) (g' := g0) (fun _ _ _ h => h) (fun _ _ h => h) _ _ hargs (hw _ _ (xX (fun x v _ hr => xq hs d x v hr) ha))
 refine (h (bD ⟨.e, 0⟩) (fun r _ => r = .ret x) rfl g0 w vs ri Iy Uo).mono ?_
 rintro e w' hp
 cases e with
 | panicked ch => obtain ⟨g', ae, y, v, _, _, _, _, hz⟩ := hp; cases hz
 | outgrown => exact hp.elim
 | returned v =>
   obtain ⟨g', ae, y, h1, h2, h3, hz⟩ := hp
   cases hz
   have qv := h2.yW
   have hle := h1.trans qv
   have tz : Below w.heap.size w w' := by
    have := h2.below
    rw [h1.base, h1.w0] at this
    exact this
   let gF : Gh := { base := g.base, w0 := g.w0, place := g.place, bM := g.bM, bH := g.bH, res := g.res }
   have CV : Gh.Le g gF := ⟨rfl, rfl, fun _ _ h => h, fun b o u hu => hu, fun b u hu => hu, fun _ h => h, fun _ _ _ => rfl, fun _ _ => rfl⟩
   refine ⟨gF, U, x, CV, ?_, ay.flat x v hx h3, hR⟩
   exact {
    below := hs.below.trans (tz.mono hs.le)
    le := Nat.le_trans hs.le tz.size
    bM := fun q o u hu => tj h2 q o u (hle.bM _ _ _ (PN.bM _ _ _ hu))
    bH := fun q es c hu => rO h2 q es c (hle.bH _ _ (PN.bH _ _ hu))
    live := fun b l hb => by
     obtain ⟨p, k1, k2, k3⟩ := hs.live b l hb
     have aJ := k3.lt
     exact ⟨p, k1, k2, k3.frame CV.r (tz.block _ aJ) (fun o => rfl) rfl⟩
    apart := hs.apart
    res := fun r hr => by
     obtain ⟨k1, k2⟩ := hs.res r hr
     exact ⟨k1, by rw [tz.block _ (iE.1 k2).1]; exact k2⟩
    fin := hs.fin }
inductive Wk : List AV -> List AV -> Prop
 | nil : Wk [] []
 | bo (x : AV) {l l' : List AV} : Wk l l' -> Wk (x :: l) (x :: l')
 | drop (x : AV) {l l' : List AV} : Wk l l' -> Wk (.any :: l) (x :: l')
theorem Wk.rep {g : Gh} {l l' : List AV} (h : Wk l l') : ∀ {vs : List Value}, aD g l' vs -> aD g l vs := by
 induction h with
 | nil => exact fun h => h
 | bo x _ ih =>
   intro vs h
   simp only [aD] at h ⊢
   obtain ⟨u, us, h1, h2, h3⟩ := h
   exact ⟨u, us, h1, h2, ih h3⟩
 | drop x _ ih =>
   intro vs h
   simp only [aD] at h ⊢
   obtain ⟨u, us, h1, h2, h3⟩ := h
   exact ⟨u, us, h1, by simp only [ay], ih h3⟩
theorem Wk.cj {g : Gh} {l l' r : List AV} {vs : List Value} (h : Wk l l') (hr : aD g (.cj l' :: r) vs) : aD g (.cj l :: r) vs := by
 simp only [aD, ay] at hr ⊢
 obtain ⟨u, us, h1, ⟨aH, off, ws, h2, h3, h4⟩, h5⟩ := hr
 exact ⟨u, us, h1, ⟨aH, off, ws, h2, h3, h.rep h4⟩, h5⟩
theorem Wk.any : ∀ (l : List AV), Wk (l.map fun _ => .any) l
 | [] => .nil
 | x :: l => .drop x (Wk.any l)
end Go.Rip
namespace Go.Rip
open Go.RowKit
def aq (vt : Option (Bool × Nat)) (p : AV) (U : St) : av :=
 match vt, jL U p with
 | some (true, sz), some l => .cond (sz <= l.length) (.val (.agg (l.take sz)))
 | some (false, _), some l => fW l
 | _, _ => .bad
def aM (vt : Option (Bool × Nat)) (p v : AV) (U : St) : av :=
 match vt, p with
 | some (_, sz), .box b off => match U.box b with
   | some l => .cond (v.cS = true /\ (ax v).length = sz /\ off + sz <= l.length) (.jD (.aQ []) b (.box (aA l off (ax v))))
   | none => .bad
 | _, _ => .bad
def Sx (t : TypeId) (z : Option (List AV)) : av :=
 match z with
 | some l => Ci t l
 | none => .bad
def c7 (st : Option (List (Nat × Nat))) (z : Option (List AV)) (at_ : Option (Nat × TypeId × Nat)) (parts : List (Nat × AV)) : av :=
 match st, z with
 | some pl, some z => eK (fun i => pl[i]?) parts z fun z => .val (.agg z)
 | none, some z => match at_ with
   | some (_, _, sz) => eK (fun i => some (i * sz, sz)) parts z fun z => .val (.agg z)
   | none => .bad
 | _, _ => .bad
def aP (sl : Option (TypeId × Nat)) (z : Option (List AV)) (n : Nat) (mu : Bool) (parts : List (Nat × AV)) : av :=
 match sl with
 | some (e, sz) => match z with
   | some z => .cond (n * sz <= 16777216) (eK (fun i => some (i * sz, sz)) parts (bL n z) fun cs => .cond (cs.length = n * sz) (if mu then .lZ n sz e none cs else .val (.vec n .full cs)))
   | none => .bad
 | none => .bad
def ic (mt : Option (FK × TypeId)) (m k v : AV) (U : St) : av :=
 match mt, m with
 | some (fk, _), .mp id => match U.mp id with
   | some (ks, vs) => match jG fk k ks 0, nX fk k with
     | some none, true => .jD (.aQ []) id (.mp (fh k v ks vs).1 (fh k v ks vs).2)
     | some (some i), true => .jD (.aQ []) id (.mp ks (vs.set i v))
     | _, _ => .bad
   | none => .bad
 | _, _ => .bad
def fq (mt : Option (FK × TypeId)) (z : Option AV) (m k : AV) (ok : Bool) (U : St) : av :=
 match mt, kg U m with
 | some (fk, e), some (ks, vs) => match z, nX fk k with
   | some z, true => kn fk k z ok ks vs
   | _, _ => .bad
 | _, _ => .bad
def tp (it : Option IntKind) (is : Bool) (ss bs : Bool) (x : AV) : av :=
 match it, is, x with
 | some .i64, true, .int _ n => .cond (uy n) (.val (.int .i64 n))
 | some k, true, .int _ n => .val (.int k (k.wrap n))
 | none, true, .str s => if ss = true then .val (.str s) else
   if bs = true then .cond (s.length <= 4294967296) (.val (.vec s.length .iW (s.map fun b => .int .u8 b.toNat))) else .bad
 | _, _, _ => .bad
def eE (st : Bool) (sl : Option (TypeId × Nat)) (x : AV) (lo hi : Option AV) : av :=
 match x with
 | .str s => match st, dq 0 lo, dq s.length hi with
   | true, some l, some h => .cond (0 <= l /\ l <= h /\ h <= s.length) (.val (.str ((s.take h.toNat).drop l.toNat)))
   | _, _, _ => .bad
 | .vec n cap l => match sl, dq 0 lo, dq n hi with
   | some (_, sz), some a, some b => .cond (0 <= a /\ a <= b /\ b <= n) (.val (.vec (b.toNat - a.toNat) (pM cap hi) ((l.take (b.toNat * sz)).drop (a.toNat * sz))))
   | _, _, _ => .bad
 | .al => match sl, dq 0 lo, dq 0 hi with
   | some (_, _), some a, some b => .cond (a = 0 /\ b = 0) (.val .al)
   | _, _, _ => .bad
 | .ms b off n gz e => match sl, dq 0 lo, dq n hi with
   | some (_, sz), some a, some h => .cond (0 <= a /\ a <= h /\ h <= n /\ (a < n \/ a = 0) /\ gz = sz) (.val (.ms b (off + a.toNat * sz) (h.toNat - a.toNat) gz e))
   | _, _, _ => .bad
 | _ => .bad
def ag (ft : Option Nat) (p : AV) : av :=
 match ft, p with
 | some o, .box b off => .val (.box b (off + o))
 | some o, .cj l => .val (.cj (l.drop o))
 | _, _ => .bad
def qY (fv : Option (Nat × Bool × Nat)) (x : AV) : av :=
 match fv, x with
 | some (o, true, n), .agg l => .cond (o + n <= l.length) (.val (.agg ((l.drop o).take n)))
 | some (o, false, _), .agg l => fW (l.drop o)
 | _, _ => .bad
def TV (at_ : Option (Nat × TypeId × Nat)) (x i : AV) : av :=
 match at_, x, i with
 | some (n, _, sz), .cj l, .int _ j => .cond (0 <= j /\ j < n) (.val (.cj (l.drop (j.toNat * sz))))
 | some (n, _, sz), .box b off, .int _ j => .cond (0 <= j /\ j < n) (.val (.box b (off + j.toNat * sz)))
 | _, _, _ => .bad
def aG (sl : Option (TypeId × Nat)) (at_ : Option (Nat × TypeId × Nat)) (x i : AV) : av :=
 match sl, x, i with
 | none, x, i => TV at_ x i
 | some (_, sz), .vec n _ l, .int _ j => .cond (0 <= j /\ j < n) (.val (.cj (l.drop (j.toNat * sz))))
 | some (_, sz), .ms b off n gz _, .int _ j => .cond (0 <= j /\ j < n /\ gz = sz) (.val (.box b (off + j.toNat * sz)))
 | _, _, _ => .bad
def eg (st : Bool) (at_ : Option (Nat × TypeId × Nat)) (vt : Option (Bool × Nat)) (x i : AV) : av :=
 match x, i with
 | .str s, .int _ j => if st = true then .cond (0 <= j /\ j < s.length) (.val (.int .u8 (s.getD j.toNat 0).toNat)) else .bad
 | .agg l, .int _ j => match at_ with
   | some (n, e, sz) => match vt with
     | some (false, _) => .cond (0 <= j /\ j < n) (fW (l.drop (j.toNat * sz)))
     | some (true, k) => .cond (0 <= j /\ j < n /\ k = sz /\ j.toNat * sz + sz <= l.length) (.val (.agg ((l.drop (j.toNat * sz)).take sz)))
     | none => .bad
   | none => .bad
 | _, _ => .bad
def tO (b : Bool) (t : TypeId) (x : AV) : av := if b = true then .val (.iface t x) else .bad
def vN (mt : Option (FK × TypeId)) (m : AV) : av :=
 match mt, m with
 | some _, .eI ks vs => .new .it none (.iter (ks.zip vs) none)
 | _, _ => .bad
def sh (z : Option AV) (x : AV) (t : TypeId) (ok : Bool) : av :=
 match z, x with
 | some z, .iface u v => if u = t then .val (if ok then .aQ [v, .bool true] else v) else if ok then .val (.aQ [z, .bool false]) else .bad
 | some z, .cN => if ok then .val (.aQ [z, .bool false]) else .bad
 | _, _ => .bad
def pQ (sl : Option (TypeId × Nat)) (z : Option (List AV)) (mu : Bool) (l c : AV) : av :=
 match sl, l, c with
 | some (e, sz), .int _ l, .int _ c => match z with
   | some z => .cond (0 <= l /\ l = c /\ c <= 65536) (if mu then .lZ l.toNat sz e none (bL l.toNat z) else .kO l.toNat (bL l.toNat z) none ⟨l.toNat, e, sz⟩)
   | none => .bad
 | _, _, _ => .bad
def yo (sl : Option (TypeId × Nat)) (z : Option (List AV)) (x : AV) (U : St) : av :=
 match sl, x with
 | some (e, sz), .ms b off n gz _ => match U.box b, z with
   | some l, some z => .cond (gz = sz /\ off + n * sz <= l.length) (.jD (.aQ []) b (.box (aA l off (bL n z))))
   | _, _ => .bad
 | _, _ => .bad
def bB (lt : Option Bool) (x : AV) : av :=
 match lt, x with
 | some true, .str s => .val (.int .i64 s.length)
 | some false, .vec n _ _ => .val (.int .i64 n)
 | some false, .ms _ _ n _ _ => .val (.int .i64 n)
 | some false, .al => .val (.int .i64 0)
 | _, _ => .bad
def eZ (ap : Option (TypeId × Nat)) (mu : Bool) (s y : AV) (U : St) : av :=
 match ap, px U y with
 | some (e, sz), some (m, l2) =>
   .cond (l2.length = m * sz) (match s with
   | .al => if m = 0 then .val .al else .cond (m <= 4294967296) (if mu then .lZ m sz e none l2 else .kO m l2 none ⟨m, e, sz⟩)
   | .vec n .full l => if m = 0 then .val s else .cond (l.length = n * sz /\ n + m <= 4294967296) (.kO (n + m) (l ++ l2) none ⟨n + m, e, sz⟩)
   | .vec n (.own τ) l => .cond (U.tok τ = some ⟨n, e, sz⟩ /\ l.length = n * sz /\ n + m <= 4294967296) (.kO (n + m) (l ++ l2) (some τ) ⟨n + m, e, sz⟩)
   | .ms b off n gz e' => match U.box b with
     | some l => .cond (off = 0 /\ gz = sz /\ e' = e /\ n * sz <= l.length /\ n + m <= 4294967296) (.lZ (n + m) sz e (some b) (l.take (n * sz) ++ l2))
     | none => .bad
   | _ => .bad)
 | _, _ => .bad
structure BT where
 b : Bool
 i : Bool
 p : Bool
 f : Option (List FK)
 s : Bool
def TZ (P : Program) (t : TypeId) : BT := ⟨sP P t, iz P t, jR P t, GL P t, nf P t⟩
def PA (f : Option (List FK)) (a b : List AV) : Option Bool :=
 match f with
 | some ks => mi ks a b
 | none => none
def ak (op : BinOp) (bt : BT) (lit : Bool) (x y : AV) : av :=
 match op, x, y with
 | .eql, .cN, .cN => if bt.i = true /\ lit = true then .val (.bool true) else .bad
 | .neq, .cN, .cN => if bt.i = true /\ lit = true then .val (.bool false) else .bad
 | .add, .int k a, .int k' b => if k = k' then gk k (a + b) else .bad
 | .sub, .int k a, .int k' b => if k = k' then gk k (a - b) else .bad
 | .mul, .int k a, .int k' b => if k = k' then gk k (a * b) else .bad
 | .quo, .int k a, .int k' b => if k = k' then .cond (b ≠ 0) (gk k (a.tdiv b)) else .bad
 | .rem, .int k a, .int k' b => if k = k' then .cond (b ≠ 0) (.val (.int k (a.tmod b))) else .bad
 | .and, .int k a, .int k' b => if k = k' then .val (.int k (k.wrap (BitVec.ofInt k.bits a &&& BitVec.ofInt k.bits b).toNat)) else .bad
 | .or, .int k a, .int k' b => if k = k' then .val (.int k (k.wrap (BitVec.ofInt k.bits a ||| BitVec.ofInt k.bits b).toNat)) else .bad
 | .eql, .int k a, .int k' b => if k = k' then .val (.bool (a == b)) else .bad
 | .neq, .int k a, .int k' b => if k = k' then .val (.bool (a != b)) else .bad
 | .lss, .int k a, .int k' b => if k = k' then .val (.bool (decide (a < b))) else .bad
 | .leq, .int k a, .int k' b => if k = k' then .val (.bool (decide (a <= b))) else .bad
 | .gtr, .int k a, .int k' b => if k = k' then .val (.bool (decide (a > b))) else .bad
 | .geq, .int k a, .int k' b => if k = k' then .val (.bool (decide (a >= b))) else .bad
 | .eql, .str a, .str b => .val (.bool (a == b))
 | .neq, .str a, .str b => .val (.bool (a != b))
 | .add, .str a, .str b => .cond (a.length + b.length <= 4294967296) (.val (.str (a ++ b)))
 | .eql, .bool a, .bool b => if bt.b = true then .val (.bool (a == b)) else .bad
 | .neq, .bool a, .bool b => if bt.b = true then .val (.bool (a != b)) else .bad
 | .eql, .agg a, .agg b => so .bool (PA bt.f a b)
 | .neq, .agg a, .agg b => so (fun r => .bool (!r)) (PA bt.f a b)
 | .eql, .iface _ _, .cN => if bt.i = true then .val (.bool false) else .bad
 | .neq, .iface _ _, .cN => if bt.i = true then .val (.bool true) else .bad
 | .eql, .a7, .a7 => if bt.p = true then .val (.bool true) else .bad
 | .eql, .box _ _, .a7 => if bt.p = true then .val (.bool false) else .bad
 | .neq, .a7, .a7 => if bt.p = true then .val (.bool false) else .bad
 | .neq, .box _ _, .a7 => if bt.p = true then .val (.bool true) else .bad
 | .eql, .cj _, .a7 => if bt.p = true then .val (.bool false) else .bad
 | .neq, .cj _, .a7 => if bt.p = true then .val (.bool true) else .bad
 | .eql, .al, .al => if bt.s = true then .val (.bool true) else .bad
 | .eql, .vec _ _ _, .al => if bt.s = true then .val (.bool false) else .bad
 | .eql, .ms _ _ _ _ _, .al => if bt.s = true then .val (.bool false) else .bad
 | _, _, _ => .bad
theorem Rj (P : Program) (op : BinOp) (t : TypeId) (lit : Bool) (x y : AV) : ak op (TZ P t) lit x y = Cq P op t lit x y := by
 unfold ak Cq Gv
 cases op <;> cases x <;> cases y <;> rfl
def tg (P : Program) (t : TypeId) : Option (List AV) := match dU P t with
 | some (e, _) => mY P e
 | none => none
def Py (P : Program) (t : TypeId) : Option (Bool × Nat) := match rP P t with
 | some (_, e, _) => lh P e
 | none => none
def M6 (P : Program) (t : TypeId) : Option AV := match n0 P t with
 | some (_, e) => zeroV P e
 | none => none
def Nb (gt : Option (TypeId × Nat × List AV)) (ap : Option (TypeId × Nat)) (mu : Bool) (s y : AV) (U : St) : av :=
 match gt with
 | some q => BS q mu s y
 | none => eZ ap mu s y U
def Gz (C : cu) (mu : Bool) (c : Call) (ρ : Env) (U : St) : av :=
 match c.callee, c.argTypes.toList, c.args.toList with
 | .value (.func f), _, args => if dB C.P f = true then .enter f (args.map (ρ.ev C)) else .bad
 | .value f, _, args => fY C.P (ρ.ev C f) (args.map (ρ.ev C))
 | .builtin .len, [t], [x] => bB (Hg C.P t) (ρ.ev C x)
 | .builtin .append, [t, u], [s, y] => Nb (yB C.P t u) (Gt C.P t u) mu (ρ.ev C s) (ρ.ev C y) U
 | .builtin .cap, [t], [x] => Cv (dU C.P t) (ρ.ev C x)
 | .builtin .min, _, [x, y] => rY (ρ.ev C x) (ρ.ev C y)
 | .builtin .max, _, [x, y] => xP (ρ.ev C x) (ρ.ev C y)
 | .builtin .clear, [t], [x] => yo (dU C.P t) (tg C.P t) (ρ.ev C x) U
 | _, _, _ => .bad
def sS (C : cu) (mu : Bool) (o : Op) (ρ : Env) (U : St) : av :=
 match o with
 | .move x | .assign x => .val (ρ.ev C x)
 | .pick c a b => aR (ρ.ev C c) (ρ.ev C a) (ρ.ev C b)
 | .alloc t => Sx t (mY C.P t)
 | .box _ x => eH (ρ.ev C x)
 | .build t parts => c7 (wD C.P t) (mY C.P t) (rP C.P t) (jM C ρ parts)
 | .buildSlice t n parts => aP (dU C.P t) (tg C.P t) n mu (jM C ρ parts)
 | .insert t m k v | .mapUpdate t m k v => ic (n0 C.P t) (ρ.ev C m) (ρ.ev C k) (ρ.ev C v) U
 | .load t a => aq (lh C.P t) (ρ.ev C a) U
 | .store t a v => aM (lh C.P t) (ρ.ev C a) (ρ.ev C v) U
 | .nilCheck x => bC (ρ.ev C x)
 | .binOp op t x y _ => ak op (TZ C.P t) (isLit x || isLit y) (ρ.ev C x) (ρ.ev C y)
 | .unOp op _ x => fo op (ρ.ev C x)
 | .convert s d x => tp (G8 C.P d) (C.P.underlying s).isSome (kM C.P d && kM C.P s) (tI C.P d && kM C.P s) (ρ.ev C x)
 | .makeInterface t x => tO (vD C.P t) t (ρ.ev C x)
 | .makeFunc fn first cap => .val (.func fn (first.toList.map (ρ.ev C)) (cap.toList.map (ρ.ev C)))
 | .makeMap _ none => .BY
 | .slice t x lo hi none => eE (kM C.P t) (dU C.P t) (ρ.ev C x) (lo.map (ρ.ev C)) (hi.map (ρ.ev C))
 | .fieldAddr s x f => ag (u3 C.P s f) (ρ.ev C x)
 | .field s x f => qY (wm C.P s f) (ρ.ev C x)
 | .indexAddr t x i => aG (dU C.P t) (rP C.P t) (ρ.ev C x) (ρ.ev C i)
 | .index t x i => eg (kM C.P t) (rP C.P t) (Py C.P t) (ρ.ev C x) (ρ.ev C i)
 | .lookup t m k ok => fq (n0 C.P t) (M6 C.P t) (ρ.ev C m) (ρ.ev C k) ok U
 | .extract t i => bg (ρ.ev C t) i
 | .panic x => qK (ρ.ev C x)
 | .range t m => vN (n0 C.P t) (ρ.ev C m)
 | .typeAssert x _ t ok => sh (wh C.P t) (ρ.ev C x) t ok
 | .makeSlice t l c => pQ (dU C.P t) (tg C.P t) mu (ρ.ev C l) (ρ.ev C c)
 | .next i false => pS (ρ.ev C i) U
 | .entry i => mE (ρ.ev C i) U
 | .call c => Gz C mu c ρ U
 | _ => .bad
theorem Nh (C : cu) (mu : Bool) (c : Call) (ρ : Env) (U : St) : Gz C mu c ρ U = wi C mu c ρ U := by
 unfold Gz wi
 obtain ⟨callee, ⟨args⟩, ⟨QV⟩⟩ := c
 cases callee with
 | value f =>
   cases f <;> simp only [fY, Env.ev, jA, jU]
 | invoke r m => rfl
 | builtin b =>
   cases b
   case clear =>
    dsimp only
    rcases QV with _ | ⟨t, _ | ⟨u, _ | _⟩⟩ <;> rcases args with _ | ⟨x, _ | ⟨y, _ | _⟩⟩ <;> try rfl
    simp only [yo, uX, tg]
    generalize ρ.ev C x = y
    cases h : dU C.P t with
    | none => rfl
    | some es => (cases es; cases y <;> rfl)
   all_goals first | rfl | (dsimp only; rcases QV with _ | ⟨t, _ | ⟨u, _ | _⟩⟩ <;> rcases args with _ | ⟨x, _ | ⟨y, _ | _⟩⟩ <;> rfl)
theorem qJ (C : cu) (mu : Bool) (o : Op) (ρ : Env) (U : St) : sS C mu o ρ U = gN C mu o ρ U := by
 cases o with
 | binOp op t x y yt => exact Rj _ _ _ _ _ _
 | call c => exact Nh _ _ _ _ _
 | buildSlice t n parts =>
   simp only [sS, gN, aP, oV, tg]
   cases h : dU C.P t with
   | none => rfl
   | some es => (cases es; rfl)
 | index t x i =>
   simp only [sS, gN, eg, yR, Py]
   generalize ρ.ev C x = y
   generalize ρ.ev C i = z
   cases h : rP C.P t with
   | none => cases y <;> rfl
   | some es => (cases es; cases y <;> cases z <;> rfl)
 | lookup t m k ok =>
   simp only [sS, gN, fq, sQ, M6]
   generalize kg U (ρ.ev C m) = y
   cases h : n0 C.P t with
   | none => rfl
   | some es => (cases es; cases y <;> rfl)
 | makeSlice t l c =>
   simp only [sS, gN, pQ, pP, tg]
   generalize ρ.ev C l = y
   generalize ρ.ev C c = z
   cases h : dU C.P t with
   | none => rfl
   | some es => (cases es; cases y <;> cases z <;> rfl)
 | convert s d x =>
   simp only [sS, gN, tp, BR, bN]
   rfl
 | makeMap t r => cases r <;> rfl
 | slice t x lo hi m => cases m <;> rfl
 | next i b => cases b <;> rfl
 | _ => rfl
end Go.Rip
namespace Go.Rip
open Go.RowKit
def Fn : Nat -> Type
 | 0 => St -> Prop
 | n + 1 => AV -> Fn n
namespace Fn
def app : (n : Nat) -> Fn n -> List AV -> St -> Prop
 | 0, f, _, U => f U
 | n + 1, f, x :: xs, U => app n (f x) xs U
 | n + 1, f, [], U => app n (f .any) [] U
def lam : (n : Nat) -> (List AV -> St -> Prop) -> Fn n
 | 0, F => fun U => F [] U
 | n + 1, F => fun x => lam n (fun xs U => F (x :: xs) U)
theorem nw : ∀ (n : Nat) (F : List AV -> St -> Prop) (xs : List AV) (U : St), xs.length = n -> app n (lam n F) xs U = F xs U
 | 0, F, [], U, _ => rfl
 | n + 1, F, x :: xs, U, h => nw n (fun xs U => F (x :: xs) U) xs U (by simpa using h)
 | 0, F, _ :: _, U, h => by simp at h
 | n + 1, F, [], U, h => by simp at h
def imp : (n : Nat) -> Fn n -> Fn n -> Prop
 | 0, f, g => ∀ U, f U -> g U
 | n + 1, f, g => ∀ x, imp n (f x) (g x)
theorem FQ : ∀ {n : Nat} {f g : Fn n}, imp n f g -> ∀ (xs : List AV) (U : St), xs.length = n -> app n f xs U -> app n g xs U
 | 0, f, g, h, xs, U, _, hf => h U hf
 | n + 1, f, g, h, x :: xs, U, hl, hf => FQ (h x) xs U (by simpa using hl) hf
 | n + 1, f, g, h, [], U, hl, hf => by simp at hl
theorem Fh : ∀ {n : Nat} {f g : Fn n}, (∀ (xs : List AV) (U : St), xs.length = n -> app n f xs U -> app n g xs U) -> imp n f g
 | 0, f, g, h => fun U hf => h [] U rfl hf
 | n + 1, f, g, h => fun x => Fh fun xs U hl hf => h (x :: xs) U (by simpa using hl) hf
end Fn
def yY : List Nat -> List AV -> Nat -> AV
 | s :: ss, x :: xs, t => cond (Nat.beq t s) x (yY ss xs t)
 | _, _, _ => .any
def zP (live : List Nat) (vs : List AV) : Env := ⟨yY live vs⟩
theorem Bn (f : Nat -> AV) (t : Nat) : ∀ live : List Nat, yY live (live.map f) t = f t \/ yY live (live.map f) t = .any
 | [] => .inr rfl
 | s :: ss => by
   simp only [dy, yY]
   cases h : Nat.beq t s with
   | true => have := dZ h; subst this; exact .inl rfl
   | false => exact Bn f t ss
theorem AJ (ρ : Env) (live : List Nat) (t : Nat) : (zP live (live.map ρ.get)).get t = ρ.get t \/ (zP live (live.map ρ.get)).get t = .any := Bn ρ.get t live
section
variable {C : cu} {nt : Nat} {ro : Ro} {U : St} {ρ : Env}
theorem bz.Gm {c : Code} {Q : Ex -> Env -> St -> Prop} {dv : Env} (h : bz C nt ro c Q dv U) (hw : ∀ t, dv.get t = ρ.get t \/ dv.get t = .any) : bz C nt ro c Q ρ U :=
 fun g w a fr h1 h2 h3 h4 h5 => h g w a fr h1 h2 (fun t => by
  rcases hw t with e | e
  · rw [e]; exact h3 t
  · rw [e]; simp only [ay]) h4 h5
end
structure Qx where
 n : Env -> St -> Prop
 e : Nat -> Env -> St -> Prop
 r : Env -> St -> Prop
 p : AV -> St -> Prop
def Qx.q (Q : Qx) : Ex -> Env -> St -> Prop
 | .normal, ρ, U => Q.n ρ U
 | .exit i, ρ, U => Q.e i ρ U
 | .ret, ρ, U => Q.r ρ U
 | .panic x, _, U => Q.p x U
def XG (ops : Array Oper) (j : Nat) : Option Nat := (ops[j]?).bind (·.dst)
def ar (v : AV) (want : Bool) : AV := match v with
 | .bool b => .bool (b == want)
 | .aQ [] => .bool false
 | _ => .any
def CJ (ops : Array Oper) (ρ : Env) (jw : Nat × Bool) : AV := match XG ops jw.1 with
 | some d => ar (ρ.get d) jw.2
 | none => .any
theorem CK (ops : Array Oper) (ρ : Env) (jw : Nat × Bool) : fV ops ρ (some jw) = CJ ops ρ jw := rfl
def Aj (b : Bool) (v : AV) : AV := match b with
 | true => v
 | false => .aQ []
def dH (C : cu) (b : Bool) : av -> (AV -> Prop) -> Prop
 | .val v, k => k (Aj b v)
 | @av.cond p _ r, k => (b = true -> p) /\ dH C b r k
 | .enter f args, k => ∃ v, (b = true -> Pure C f args v) /\ k (Aj b v)
 | _, k => b = false /\ k (.aQ [])
def ad (C : cu) (gv : AV) (r : av) (k : AV -> Prop) : Prop := match gv with
 | .bool b => dH C b r k
 | _ => False
theorem xp {C : cu} : ∀ (r : av) {k : AV -> Prop}, dH C true r k -> ∃ v, r.yv C v /\ k v
 | .val v, k, h => ⟨v, rfl, h⟩
 | @av.cond _ _ r, k, h => let ⟨v, h1, h2⟩ := xp r h.2; ⟨v, ⟨h.1 rfl, h1⟩, h2⟩
 | .enter _ _, k, h => let ⟨v, h1, h2⟩ := h; ⟨v, h1 rfl, h2⟩
 | .jD _ _ _, _, h => by cases h.1
 | .new _ _ _, _, h => by cases h.1
 | .ji _ _, _, h => by cases h.1
 | .yield _ _, _, h => by cases h.1
 | .panic _, _, h => by cases h.1
 | .bad, _, h => by cases h.1
theorem vK {C : cu} : ∀ (r : av) {k : AV -> Prop}, dH C false r k -> k (.aQ [])
 | .val v, k, h => h
 | @av.cond _ _ r, k, h => vK r h.2
 | .enter _ _, k, h => let ⟨v, h1, h2⟩ := h; h2
 | .jD _ _ _, _, h => h.2
 | .new _ _ _, _, h => h.2
 | .ji _ _, _, h => h.2
 | .yield _ _, _, h => h.2
 | .panic _, _, h => h.2
 | .bad, _, h => h.2
theorem vL {C : cu} {gv : AV} {r : av} {k : AV -> Prop} (h : ad C gv r k) : (gv = .bool true /\ ∃ v, r.yv C v /\ k v) \/ (gv = .bool false /\ k (.aQ [])) := by
 cases gv <;> simp only [ad] at h
 rename_i b
 cases b
 · exact .inr ⟨rfl, vK r h⟩
 · exact .inl ⟨rfl, xp r h⟩
def VH (pf : List Nat) (o : Op) : Bool := match o with
 | .call c => match c.callee with
   | .value (.func f) => pf.any fun g => Nat.beq g f
   | .value _ => false
   | _ => quiet o
 | o => quiet o
def Df (C : cu) (o : Op) (ρ : Env) : Option AV := match o with
 | .move x | .assign x => some (ρ.ev C x)
 | .makeFunc fn first cap => some (.func fn (first.toList.map (ρ.ev C)) (cap.toList.map (ρ.ev C)))
 | _ => none
theorem zY {C : cu} {o : Op} {ρ : Env} {v : AV} (h : Df C o ρ = some v) (mu : Bool) (U : St) : sS C mu o ρ U = .val v := by
 unfold Df at h
 split at h
 · cases h; rfl
 · cases h; rfl
 · cases h; rfl
 · cases h
def r9 (C : cu) (mu pf : List Nat) (ops : Array Oper) : List Oper -> Env -> St -> (Env -> St -> Prop) -> (AV -> St -> Prop) -> Prop
 | [], ρ, U, K, _ => K ρ U
 | o :: rest, ρ, U, K, Kp => match o.guard with
   | none => match Df C o.op ρ with
     | some v => r9 C mu pf ops rest (ρ.dO o.dst v) U K Kp
     | none => (sS C (nh mu o) o.op ρ U).wp C U (fun v U => r9 C mu pf ops rest (ρ.dO o.dst v) U K Kp) Kp
   | some jw => match VH pf o.op with
     | true => ad C (CJ ops ρ jw) (sS C (nh mu o) o.op ρ U) (fun v => r9 C mu pf ops rest (ρ.dO o.dst v) U K Kp)
     | false => ao (CJ ops ρ jw) ((sS C (nh mu o) o.op ρ U).wp C U (fun v U => r9 C mu pf ops rest (ρ.dO o.dst v) U K Kp) Kp)
       (r9 C mu pf ops rest (ρ.dO o.dst (.aQ [])) U K Kp)
theorem sT {C : cu} {mu pf : List Nat} {ops : Array Oper} {K : Env -> St -> Prop} {Kp : AV -> St -> Prop} : ∀ (l : List Oper) (ρ : Env) (U : St),
 r9 C mu pf ops l ρ U K Kp -> mz C mu ops l ρ U K Kp
 | [], _, _, h => h
 | o :: rest, ρ, U, h => by
   have step : ∀ {r : av}, r.wp C U (fun v U => r9 C mu pf ops rest (ρ.dO o.dst v) U K Kp) Kp ->
    r.wp C U (fun v ae => mz C mu ops rest (ρ.dO o.dst v) ae K Kp) Kp := fun hr => av.wp_mono (fun v ae hv => sT rest _ _ hv) _ hr
   simp only [r9] at h
   simp only [mz]
   show ao (fV ops ρ o.guard) ((gN C (nh mu o) o.op ρ U).wp C U (fun v ae => mz C mu ops rest (ρ.dO o.dst v) ae K Kp) Kp) (mz C mu ops rest (ρ.dO o.dst (.aQ [])) U K Kp)
   rw [<- qJ]
   cases hg : o.guard with
   | none =>
     rw [hg] at h
     simp only at h
     refine ⟨fun _ => ?_, fun hf => (by cases hf)⟩
     split at h
     · rename_i v hv
       rw [zY hv]
       exact sT rest _ _ h
     · exact step h
   | some jw =>
     rw [hg] at h
     simp only at h
     rw [CK]
     split at h
     · rcases vL h with ⟨hb, v, hv, hk⟩ | ⟨hb, hk⟩
       · rw [hb]
         refine ⟨fun _ => ?_, fun hf => (by cases hf)⟩
         exact av.HV _ hv (sT rest _ _ hk)
       · rw [hb]
         exact ⟨fun hf => (by cases hf), fun _ => sT rest _ _ hk⟩
     · cases hv : CJ ops ρ jw <;> rw [hv] at h <;> simp only [ao] at h ⊢
       exact ⟨fun e => step (h.1 e), fun e => sT rest _ _ (h.2 e)⟩
def aC (C : cu) : av -> (AV -> Prop) -> Prop
 | .val v, k => k v
 | @av.cond p _ r, k => p /\ aC C r k
 | .enter f args, k => ∃ v, Pure C f args v /\ k v
 | _, _ => False
theorem Bw {C : cu} : ∀ (r : av) {k : AV -> Prop}, aC C r k -> ∃ v, r.yv C v /\ k v
 | .val v, k, h => ⟨v, rfl, h⟩
 | @av.cond _ _ r, k, h => let ⟨v, h1, h2⟩ := Bw r h.2; ⟨v, ⟨h.1, h1⟩, h2⟩
 | .enter _ _, k, h => h
 | .jD _ _ _, _, h => h.elim
 | .new _ _ _, _, h => h.elim
 | .ji _ _, _, h => h.elim
 | .yield _ _, _, h => h.elim
 | .panic _, _, h => h.elim
 | .bad, _, h => h.elim
def CP (C : cu) (ρ : Env) (o : Op) : List Nat := o.operands.toList.flatMap fun x => dM (ρ.ev C x)
def VK (b : Bool) (P k : Prop) : Prop := match b with
 | true => P /\ k
 | false => k
def Vl (b : Bool) (P k : Prop) : Prop := match b with
 | true => k
 | false => P /\ k
theorem Jm {ops : Array Oper} {i : Nat} {I : St -> Prop} {U : St} {k : Prop} (h : Vl (jh ops i) (I U) k) : Ix ops I i U /\ k := by
 unfold Ix
 cases ha : jh ops i <;> rw [ha] at h <;> simp only [Vl] at h
 · exact ⟨.inr h.1, h.2⟩
 · exact ⟨.inl rfl, h⟩
def ze (C : cu) (ops : Array Oper) (ρ : Env) (g : Option (Nat × Bool)) (i : Option AV) (r : av) (k : AV -> Prop) : Prop := match g with
 | none => match i with
   | some v => k v
   | none => aC C r k
 | some jw => ad C (CJ ops ρ jw) r k
def gW (ops : Array Oper) (ρ : Env) (g : Option (Nat × Bool)) (A B : Prop) : Prop := match g with
 | none => A
 | some jw => ao (CJ ops ρ jw) A B
def rB (C : cu) (mu : List Nat) (ops : Array Oper) (aF : St) (K : Env -> St -> Prop) (Kp : AV -> St -> Prop) (B : List Nat) : List (Bool × Nat) -> Env -> St -> Prop
 | [], ρ, U => K ρ U
 | (true, i) :: r, ρ, U => match ops[i]? with
   | none => False
   | some o => match quiet o.op with
     | false => False
     | true => VK (ma o.op) (∀ b ∈ CP C ρ o.op, b ∈ B) (ze C ops ρ o.guard (Df C o.op ρ) (sS C (nh mu o) o.op ρ aF) fun v => rB C mu ops aF K Kp B r (ρ.dO o.dst v) U)
 | (false, i) :: r, ρ, U => match ops[i]? with
   | none => False
   | some o => gW ops ρ o.guard ((sS C (nh mu o) o.op ρ U).wp C U (fun v U => Vl (jh ops i) (c8 B aF U) (rB C mu ops aF K Kp B r (ρ.dO o.dst v) U)) Kp)
      (rB C mu ops aF K Kp B r (ρ.dO o.dst (.aQ [])) U)
def B0 (C : cu) (mu : List Nat) (ops : Array Oper) (aF : St) (K : Env -> St -> Prop) (Kp : AV -> St -> Prop) : List (Bool × Nat) -> List Nat -> Env -> St -> Prop
 | [], _, ρ, U => K ρ U
 | (true, i) :: r, B, ρ, U => match ops[i]? with
   | none => False
   | some o => match quiet o.op with
     | false => False
     | true => ze C ops ρ o.guard (Df C o.op ρ) (sS C (nh mu o) o.op ρ aF) fun v => B0 C mu ops aF K Kp r (match ma o.op with | true => CP C ρ o.op ++ B | false => B) (ρ.dO o.dst v) U
 | (false, i) :: r, B, ρ, U => rB C mu ops aF K Kp B ((false, i) :: r) ρ U
section
variable {C : cu} {mu : List Nat} {ops : Array Oper} {aF : St} {K : Env -> St -> Prop} {Kp : AV -> St -> Prop}
theorem NB {ρ : Env} {g : Option (Nat × Bool)} {A B : Prop} (h : gW ops ρ g A B) : (fV ops ρ g = .bool true /\ A) \/ (fV ops ρ g = .bool false /\ B) := by
 unfold gW at h
 cases g with
 | none => exact .inl ⟨rfl, h⟩
 | some jw =>
   simp only at h
   rw [CK]
   cases hv : CJ ops ρ jw <;> rw [hv] at h <;> simp only [ao] at h
   rename_i b
   cases b
   · exact .inr ⟨rfl, h.2 rfl⟩
   · exact .inl ⟨rfl, h.1 rfl⟩
theorem vM {ρ : Env} {g : Option (Nat × Bool)} {i : Option AV} {r : av} {k : AV -> Prop} (hi : ∀ v, i = some v -> r = .val v) (h : ze C ops ρ g i r k) : (fV ops ρ g = .bool true /\ ∃ v, r.yv C v /\ k v) \/ (fV ops ρ g = .bool false /\ k (.aQ [])) := by
 unfold ze at h
 cases g with
 | none =>
   cases i with
   | none => exact .inl ⟨rfl, Bw r h⟩
   | some v => rw [hi v rfl]; exact .inl ⟨rfl, v, rfl, h⟩
 | some jw => simp only at h; rw [CK]; exact vL h
theorem yF {ρ : Env} {o : Op} {x : Operand} (hx : x ∈ o.operands.toList) {b : Nat} (hb : b ∈ dM (ρ.ev C x)) : b ∈ CP C ρ o := List.mem_flatMap.2 ⟨x, hx, hb⟩
theorem qd (B : List Nat) : ∀ (l : List (Bool × Nat)) (ρ : Env) (U : St), rB C mu ops aF K Kp B l ρ U -> ky C mu ops B aF K Kp l ρ U
 | [], _, _, h => h
 | (true, i) :: r, ρ, U, h => by
   simp only [rB] at h
   split at h
   · exact h.elim
   · rename_i o ho
     split at h
     · exact h.elim
     · rename_i hq
       have key : ∀ {P k : Prop}, VK (ma o.op) P k -> (ma o.op = true -> P) /\ k := fun {P k} h => by
        cases hr : ma o.op <;> rw [hr] at h <;> simp only [VK] at h
        · exact ⟨fun h => (by cases h), h⟩
        · exact ⟨fun _ => h.1, h.2⟩
       obtain ⟨hB, h⟩ := key h
       rcases vM (fun v hv => zY hv _ _) h with ⟨hg, v, hv, hk⟩ | ⟨hg, hk⟩
       · rw [qJ] at hv
         exact ⟨o, v, ho, .inl ⟨hg, hq, fun hr x hx b hb => hB hr b (yF hx hb), hv⟩, qd B r _ _ hk⟩
       · exact ⟨o, .aQ [], ho, .inr ⟨hg, rfl⟩, qd B r _ _ hk⟩
 | (false, i) :: r, ρ, U, h => by
   simp only [rB] at h
   simp only [ky, mf]
   split at h
   · exact h.elim
   · rename_i o ho
     rw [ho]
     simp only
     rw [qJ] at h
     rcases NB h with ⟨hg, h⟩ | ⟨hg, h⟩
     · rw [hg]
       exact ⟨fun _ => av.wp_mono (fun v U hv => ⟨(Jm (I := c8 B aF) hv).1, qd B r _ _ (Jm (I := c8 B aF) hv).2⟩) _ h, fun h => by cases h⟩
     · rw [hg]
       exact ⟨fun h => (by cases h), fun _ => qd B r _ _ h⟩
theorem Ac : ∀ (l : List (Bool × Nat)) (B : List Nat) (ρ : Env) (U : St), B0 C mu ops aF K Kp l B ρ U -> ∃ B', (∀ b ∈ B, b ∈ B') /\ ky C mu ops B' aF K Kp l ρ U
 | [], B, _, _, h => ⟨B, fun _ h => h, h⟩
 | (true, i) :: r, B, ρ, U, h => by
   simp only [B0] at h
   split at h
   · exact h.elim
   · rename_i o ho
     split at h
     · exact h.elim
     · rename_i hq
       rcases vM (fun v hv => zY hv _ _) h with ⟨hg, v, hv, hk⟩ | ⟨hg, hk⟩
       · rw [qJ] at hv
         obtain ⟨B', hB, hA⟩ := Ac r _ _ _ hk
         refine ⟨B', fun b hb => hB b ?_, o, v, ho, .inl ⟨hg, hq, fun hr x hx b hb => hB b ?_, hv⟩, hA⟩
         · split
           · exact List.mem_append_right _ hb
           · exact hb
         · rw [hr]; exact List.mem_append_left _ (yF hx hb)
       · obtain ⟨B', hB, hA⟩ := Ac r _ _ _ hk
         refine ⟨B', fun b hb => hB b ?_, o, .aQ [], ho, .inr ⟨hg, rfl⟩, hA⟩
         split
         · exact List.mem_append_right _ hb
         · exact hb
 | (false, i) :: r, B, ρ, U, h => ⟨B, fun _ h => h, qd B _ _ _ h⟩
end
structure Qr where
 Du : (St -> Prop) -> St -> Prop
 n : St -> Prop
 e : Nat -> St -> Prop
 r : St -> Prop
def pz : Nat -> Type
 | 0 => Qr -> St -> Prop
 | n + 1 => AV -> pz n
def pz.app : (n : Nat) -> pz n -> List AV -> Qr -> St -> Prop
 | 0, f, _, q, U => f q U
 | n + 1, f, x :: xs, q, U => pz.app n (f x) xs q U
 | n + 1, f, [], q, U => pz.app n (f .any) [] q U
def pz.lam : (n : Nat) -> (List AV -> Qr -> St -> Prop) -> pz n
 | 0, F => fun q U => F [] q U
 | n + 1, F => fun x => pz.lam n (fun xs q U => F (x :: xs) q U)
theorem pz.nw : ∀ (n : Nat) (F : List AV -> Qr -> St -> Prop) (xs : List AV) (q : Qr) (U : St), xs.length = n -> pz.app n (pz.lam n F) xs q U = F xs q U
 | 0, F, [], q, U, _ => rfl
 | n + 1, F, x :: xs, q, U, h => pz.nw n (fun xs U => F (x :: xs) U) xs q U (by simpa using h)
 | 0, F, _ :: _, q, U, h => by simp at h
 | n + 1, F, [], q, U, h => by simp at h
def eY.st (L : eY) (s : LoopState) (p : Option Code) : eY := { L with state := s, eJ := p }
def aaG (o : Nat) (k : St -> Prop) (U : St) : Prop := ∃ L, U.loop o = some L /\ L.state = .ready /\ k (U.set o (.loop { L with state := .busy }))
def aaI (o : Nat) (R : cB -> St -> Prop) : Qr where
 Du := aaG o
 n := fun U => ∃ L, U.loop o = some L /\ R (.ret (.bool true)) (U.set o (.loop { L with state := .ready, eJ := none }))
 e := fun id U => ∃ L, U.loop o = some L /\ R (.ret (.bool false)) (U.set o (.loop { L with state := .done, eJ := some (.exit id) }))
 r := fun U => ∃ L, U.loop o = some L /\ R (.ret (.bool false)) (U.set o (.loop { L with state := .done, eJ := some .ret }))
def JV (o : Nat) (Kn : St -> Prop) (Ke : Nat -> St -> Prop) (Kr : St -> Prop) (Kp : AV -> St -> Prop) : cB -> St -> Prop
 | .ret _, ae => ∃ L, ae.loop o = some L /\ L.state ≠ .busy /\ (match L.eJ with
   | none => Kn (ae.del o)
   | some .ret => Kr (ae.del o)
   | some (.exit id) => Ke id (ae.del o)
   | _ => False)
 | .panic x, ae => Kp x ae
def qO (C : cu) (np : Nat) (fv : AV) (U : St) (B : pz np) (Kn : St -> Prop) (Ke : Nat -> St -> Prop) (Kr : St -> Prop) (Kp : AV -> St -> Prop) : Prop :=
 match fv with
 | .func (.func hY) first cap => dB C.P hY = true /\ ∀ (o : Nat) (L : eY), U.cQ o -> L.state = .ready -> L.eJ = none ->
   (∀ (args : List AV) (bJ : St) (R : cB -> St -> Prop) (L1 : eY), args.length = np -> bJ.loop o = some L1 -> L1.st .ready none = L -> pz.app np B args (aaI o R) bJ -> jK C o args bJ R) ->
   af C hY (first ++ [.pj o] ++ cap) (U.new o (.loop L)) (JV o Kn Ke Kr Kp)
 | _ => False
def Ft (b : Bool) (A B : Prop) : Prop := match b with
 | true => A
 | false => B
def iQ (n : Nat) (J : Fn n) (B : Fn n -> Prop) : Prop := ∀ j : Fn n, Fn.imp n J j -> B j
def cL (n : Nat) (init : List AV) (U : St) (B : Fn n -> Fn n) : Prop :=
 ∃ I : Nat -> Fn n, (∃ m, Fn.app n (I m) init U) /\ ∀ m, Fn.imp n (I m) (B (Fn.lam n fun vs U => ∃ m', m' < m /\ Fn.app n (I m') vs U))
inductive An where
 | z
 | sq (live : Option (List Nat)) (a b : An)
 | cd (a b : An)
 | bk (a : An)
 | lp (live : List Nat) (a : An)
 | rg (mu pf : List Nat) (cY : Option Pl)
 | rb (mu : List Nat) (cY : Pl)
 | rf (a b : An)
def lU (C : cu) : Code -> An -> Qx -> Env -> St -> Prop
 | .skip, _, Q, ρ, U => Q.n ρ U
 | .exit i, _, Q, ρ, U => Q.e i ρ U
 | .ret, _, Q, ρ, U => Q.r ρ U
 | .seq a b, .sq none x y, Q, ρ, U => lU C a x { Q with n := fun ρ U => lU C b y Q ρ U } ρ U
 | .seq a b, .sq (some live) x y, Q, ρ, U => iQ live.length (Fn.lam live.length fun vs U => lU C b y Q (zP live vs) U)
    fun j => lU C a x { Q with n := fun ρ U => Fn.app live.length j (live.map ρ.get) U } ρ U
 | .cond c a b, .cd x y, Q, ρ, U => ao (ρ.ev C c) (lU C a x Q ρ U) (lU C b y Q ρ U)
 | .block i a, .bk x, Q, ρ, U => lU C a x { Q with e := fun k ρ U => Ft (Nat.beq k i) (Q.n ρ U) (Q.e k ρ U) } ρ U
 | .loop a, .lp live x, Q, ρ, U => cL live.length (live.map ρ.get) U fun lp => Fn.lam live.length fun vs U =>
    lU C a x { Q with n := fun ρ U => Fn.app live.length lp (live.map ρ.get) U } (zP live vs) U
 | .region _ ops false, .rg mu pf none, Q, ρ, U => r9 C mu pf ops ops.toList ρ U Q.n Q.p
 | .region _ ops true, .rg mu pf (some cY), Q, ρ, U => B0 C mu ops U Q.n Q.p cY.steps [] ρ U
 | .region _ ops true, .rb mu cY, Q, ρ, U => ∃ B : List Nat, rB C mu ops U Q.n Q.p B cY.steps ρ U
 | .rangeFunc f ps a b, .rf x y, Q, ρ, U => qO C ps.size (ρ.ev C f) U (pz.lam ps.size fun args qr U => lU C a x
    { n := fun ρ U => qr.Du (fun U => lU C b y { n := fun _ U => qr.n U, e := fun i _ U => qr.e i U, r := fun _ U => qr.r U, p := fun _ _ => False } ρ U) U, e := fun _ _ _ => False, r := fun _ _ => False, p := fun _ _ => False }
    ⟨tY ρ.get ps.toList args⟩ U) (fun U => Q.n ρ U) (fun i U => Q.e i ρ U) (fun U => Q.r ρ U) (fun x U => Q.p x U)
 | _, _, _, _, _ => False
def jZ (nt : Nat) : Bool -> Code -> An -> Bool
 | _, .skip, _ => true
 | _, .exit _, _ => true
 | _, .ret, _ => true
 | top, .seq a b, .sq _ x y => jZ nt top a x && jZ nt top b y
 | top, .cond _ a b, .cd x y => jZ nt top a x && jZ nt top b y
 | top, .block _ a, .bk x => jZ nt top a x
 | top, .loop a, .lp _ x => jZ nt top a x
 | _, .region _ ops false, .rg _ _ none => kx nt ops
 | _, .region _ ops true, .rg _ _ (some cY) => kx nt ops && Hx ops cY
 | _, .region _ ops true, .rb _ cY => kx nt ops && Hx ops cY
 | top, .rangeFunc _ ps a b, .rf x y => top && ps.toList.all (fun t => Nat.blt t nt) && jZ nt false a x && jZ nt false b y
 | _, _, _ => false
theorem wc {C : cu} {nt : Nat} (hm : C.P.follows .mixedOrders = true) : ∀ (c : Code) (an : An) (top : Bool) (ro : Ro) (Q : Qx) (ρ : Env) (U : St), jZ nt top c an = true -> (top = true -> ro = .fn) ->
 lU C c an Q ρ U -> bz C nt ro c Q.q ρ U := by
 intro c
 induction c with
 | skip => intro an top ro Q ρ U cD ht h; exact bz.skip h
 | exit i => intro an top ro Q ρ U cD ht h; exact bz.exit h
 | ret => intro an top ro Q ρ U cD ht h; exact bz.ret h
 | seq a b vq FO =>
   intro an top ro Q ρ U cD ht h
   cases an <;> simp only [jZ, bq, bN] at cD
   rename_i live x y
   refine bz.seq ?_
   cases live with
   | none =>
     simp only [lU] at h
     refine (vq x top ro _ ρ U cD.1 ht h).mono fun e ρ U he => ?_
     cases e <;> first | exact FO y top ro Q ρ U cD.2 ht he | exact he
   | some live =>
     simp only [lU] at h
     have := h (Fn.lam live.length fun vs U => bz C nt ro b Q.q (zP live vs) U) (Fn.Fh fun xs U hl hx => by
      rw [Fn.nw _ _ _ _ hl] at hx ⊢
      exact FO y top ro Q _ _ cD.2 ht hx)
     refine (vq x top ro _ ρ U cD.1 ht this).mono fun e ρ U he => ?_
     cases e with
     | normal =>
       have jC : Fn.app live.length (Fn.lam live.length fun vs U => bz C nt ro b Q.q (zP live vs) U) (live.map ρ.get) U := he
       rw [Fn.nw _ _ _ _ (by simp)] at jC
       exact bz.Gm jC (AJ ρ live)
     | exit i => exact he
     | ret => exact he
     | panic x => exact he
 | cond c a b vq FO =>
   intro an top ro Q ρ U cD ht h
   cases an <;> simp only [jZ, bq, bN] at cD
   rename_i x y
   simp only [lU] at h
   cases hc : ρ.ev C c <;> rw [hc] at h <;> simp only [ao] at h
   exact bz.cond hc (fun e => vq x top ro Q ρ U cD.1 ht (h.1 e)) (fun e => FO y top ro Q ρ U cD.2 ht (h.2 e))
 | block i a vq =>
   intro an top ro Q ρ U cD ht h
   cases an <;> simp only [jZ, bq] at cD
   rename_i x
   simp only [lU] at h
   refine bz.block ((vq x top ro _ ρ U cD ht h).mono fun e ρ U he => ?_)
   cases e with
   | exit k =>
     have jC : Ft (Nat.beq k i) (Q.n ρ U) (Q.e k ρ U) := he
     simp only [uU]
     cases hb : Nat.beq k i with
     | true => rw [hb] at jC; rw [if_pos (dZ hb)]; exact jC
     | false => rw [hb] at jC; rw [if_neg (fun e => by subst e; simp at hb)]; exact jC
   | normal => exact he
   | ret => exact he
   | panic x => exact he
 | loop a vq =>
   intro an top ro Q ρ U cD ht h
   cases an <;> simp only [jZ, bq] at cD
   rename_i live x
   simp only [lU] at h
   obtain ⟨I, ⟨m, h0⟩, hr⟩ := h
   refine bz.loop (fun m ρ U => Fn.app live.length (I m) (live.map ρ.get) U) (n := m) h0 fun m ρ U hI => ?_
   have := Fn.FQ (hr m) _ _ (by simp) hI
   rw [Fn.nw _ _ _ _ (by simp)] at this
   refine bz.Gm ((vq x top ro _ _ _ cD ht this).mono fun e dv ae he => ?_) (AJ ρ live)
   cases e with
   | normal =>
     have jC : Fn.app live.length (Fn.lam live.length fun vs U => ∃ m', m' < m /\ Fn.app live.length (I m') vs U) (live.map dv.get) ae := he
     rw [Fn.nw _ _ _ _ (by simp)] at jC
     exact jC
   | exit i => exact he
   | ret => exact he
   | panic x => exact he
 | region id ops draw =>
   intro an top ro Q ρ U cD ht h
   have kp : uM Q.q = fun x U => ∀ ρ : Env, Q.p x U := rfl
   cases draw with
   | false =>
     cases an with
     | rg mu pf cY =>
       cases cY with
       | none =>
         simp only [jZ] at cD
         simp only [lU] at h
         refine bz.region mu cD ?_
         have h2 := sT _ ρ U h
         exact rz (fun _ _ h => h) (fun v U hv ρ => hv) _ h2
       | some cY => simp [jZ] at cD
     | _ => simp [jZ] at cD
   | true =>
     cases an with
     | rg mu pf cY =>
       cases cY with
       | none => simp [jZ] at cD
       | some cY =>
         simp only [jZ, bN] at cD
         simp only [lU] at h
         obtain ⟨B, _, hA⟩ := Ac _ _ _ _ h
         refine bz.uf mu B cY.steps hm cD.1 (F9 cD.2) ?_
         exact ig (fun _ _ h => h) (fun v U hv ρ => hv) _ hA
     | rb mu cY =>
       simp only [jZ, bN] at cD
       simp only [lU] at h
       obtain ⟨B, hB⟩ := h
       refine bz.uf mu B cY.steps hm cD.1 (F9 cD.2) ?_
       exact ig (fun _ _ h => h) (fun v U hv ρ => hv) _ (qd B _ _ _ hB)
     | _ => simp [jZ] at cD
 | rangeFunc f ps a b vq FO =>
   intro an top ro Q ρ U cD ht h
   cases an <;> simp only [jZ, bq, bN] at cD
   rename_i x y
   obtain ⟨⟨⟨h1, h2⟩, h3⟩, h4⟩ := cD
   have C7 := ht h1
   subst C7
   simp only [lU, qO] at h
   split at h
   · rename_i hY first cap hf
     obtain ⟨qq, h⟩ := h
     refine bz.rangeFunc 0 hf qq fun o ho => ?_
     refine (h o ⟨ρ.get, nt, ps, a, b, .ready, none, 0⟩ ho rfl rfl ?_).mono fun r ae hr => ?_
     · intro args bJ R L1 hl pb eW hB
       obtain ⟨r1, r2, r3, r4, r5, r6, r7, r8⟩ := L1
       simp only [eY.st, eY.mk.injEq, true_and] at eW
       obtain ⟨e1, e2, e3, e4, e5, e6⟩ := eW
       subst e1 e2 e3 e4 e5 e6
       rw [pz.nw _ _ _ _ _ hl] at hB
       refine jK.DC pb (by simpa using hl) (fun t ht => by
        have := dJ.1 h2 t ht
        exact Nat.le_of_ble_eq_true this) ?_
       refine (vq x false (.round o) _ _ _ h3 (fun h => by cases h) hB).mono fun e dv ae he => ?_
       cases e with
       | normal =>
         obtain ⟨L, k1, k2, k3⟩ := he
         refine ⟨L, k1, k2, (FO y false (.round o) _ _ _ h4 (fun h => by cases h) k3).mono fun e pk bX he => ?_⟩
         cases e with
         | normal => exact he
         | exit i => exact he
         | ret => exact he
         | panic x => exact he
       | exit i => exact he
       | ret => exact he
       | panic x => exact he
     · cases r with
       | ret v =>
         obtain ⟨L, k1, k2, k3⟩ := hr
         refine ⟨L, k1, k2, ?_⟩
         split at k3
         · rename_i hp; rw [hp]; exact k3
         · rename_i hp; rw [hp]; exact k3
         · rename_i hp; rw [hp]; exact k3
         · exact k3.elim
       | panic v => exact hr
   · exact h.elim
 | scope a vq => intro an top ro Q ρ U cD; cases an <;> simp [jZ] at cD
 | label l => intro an top ro Q ρ U cD; cases an <;> simp [jZ] at cD
 | goto l => intro an top ro Q ρ U cD; cases an <;> simp [jZ] at cD
 | refuse w => intro an top ro Q ρ U cD; cases an <;> simp [jZ] at cD
def bl (vt : Option (Bool × Nat)) (p : AV) (U : St) (k : AV -> Prop) : Prop := match aq vt p U with
 | .val v => k v
 | @av.cond q _ (.val v) => q /\ k v
 | _ => False
def Af (P : Program) (ρ : Env) (U : St) : List ResultVar -> (List AV -> Prop) -> Prop
 | [], k => k []
 | .tmp t :: rs, k => Af P ρ U rs fun vs => k (ρ.get t :: vs)
 | .cell t ty :: rs, k => bl (lh P ty) (ρ.get t) U fun v => Af P ρ U rs fun vs => k (v :: vs)
theorem sV {P : Program} {ρ : Env} {U : St} : ∀ (l : List ResultVar) (k : List AV -> Prop), Af P ρ U l k -> sb P ρ U l k
 | [], _, h => h
 | .tmp t :: rs, k, h => sV rs _ h
 | .cell t ty :: rs, k, h => by
   simp only [Af, bl] at h
   simp only [sb, wx]
   rw [show rn P ty (ρ.get t) U = aq (lh P ty) (ρ.get t) U from rfl]
   split at h
   · rename_i hl; rw [hl]; exact sV rs _ h
   · rename_i hl; rw [hl]; exact ⟨h.1, sV rs _ h.2⟩
   · exact h.elim
def aj (R : cB -> St -> Prop) (x : AV) (U : St) : Prop := ∃ x' ae, lA x U x' ae /\ R (.ret x') ae
def aa (R : cB -> St -> Prop) (x : AV) (U : St) : Prop := R (.panic x) U
def aaO (P : Program) (fn : Func) (R : cB -> St -> Prop) : Qx where
 n := fun ρ U => Af P ρ U fn.results.toList fun vs => aj R (sf vs) U
 e := fun _ _ _ => False
 r := fun ρ U => Af P ρ U fn.results.toList fun vs => aj R (sf vs) U
 p := aa R
def Gx (C : cu) (fn : Func) (an : An) (args : List AV) (R : cB -> St -> Prop) (U : St) : Prop := match fn.body with
 | some c => lU C c an (aaO C.P fn R) (Env.gM args) U
 | none => False
def okF (fn : Func) (an : An) (n : Nat) : Bool := match fn.body with
 | some c => jZ fn.ntmps true c an && Nat.ble n fn.ntmps
 | none => false
theorem af.RQ {C : cu} (hm : C.P.follows .mixedOrders = true) {f : FuncId} {fn : Func} (an : An) {args : List AV} {R : cB -> St -> Prop} {U : St} (hf : C.P.funcs[f]? = some fn) (cD : okF fn an args.length = true)
 (h : Gx C fn an args R U) : af C f args U R := by
 unfold okF at cD
 unfold Gx at h
 split at cD
 · rename_i c hb
   rw [hb] at h
   simp only [bN] at cD
   refine af.F4 hf hb (Nat.le_of_ble_eq_true cD.2) ?_
   refine (wc hm c an true .fn _ _ _ cD.1 (fun _ => rfl) h).mono fun e ρ U he => ?_
   cases e with
   | normal => exact sV _ _ he
   | ret => exact sV _ _ he
   | panic x => exact he
   | exit i => exact he
 · cases cD
theorem aj.mk {R : cB -> St -> Prop} {x : AV} {U : St} (h : R (.ret x) U) : aj R x U := ⟨x, U, lA.refl _ _, h⟩
end Go.Rip
namespace Go.Rip
open Go.RowKit
section
variable {C : cu} {U : St} {K : AV -> St -> Prop} {Kp : AV -> St -> Prop}
@[simp] theorem ai (v : AV) : (av.val v).wp C U K Kp = K v U := rfl
@[simp] theorem jr (v : AV) (b : Nat) (x : Live) : (av.jD v b x).wp C U K Kp = K v (U.set b x) := rfl
@[simp] theorem lV (k : NV) (x : Live) : (av.new k none x).wp C U K Kp = ∀ b, U.cQ b -> K (k.at b) (U.new b x) := rfl
@[simp] theorem abi (k : NV) (d : Nat) (x : Live) : (av.new k (some d) x).wp C U K Kp = ∀ b, (U.del d).cQ b -> K (k.at b) ((U.del d).new b x) := rfl
@[simp] theorem iL (f : FuncId) (args : List AV) : (av.enter f args).wp C U K Kp = af C f args U (au K Kp) := rfl
@[simp] theorem ye (f : Nat) (args : List AV) : (av.yield f args).wp C U K Kp = jK C f args U (au K Kp) := rfl
@[simp] theorem Pw (v : AV) : (av.panic v).wp C U K Kp = Kp v U := rfl
@[simp] theorem wp_cond (p : Prop) [Decidable p] (r : av) : (av.cond p r).wp C U K Kp = (p /\ r.wp C U K Kp) := rfl
@[simp] theorem abk : av.bad.wp C U K Kp = False := rfl
@[simp] theorem abl (p : Prop) [Decidable p] (r s : av) : (if p then r else s).wp C U K Kp = if p then r.wp C U K Kp else s.wp C U K Kp := by split <;> rfl
@[simp] theorem bu (x : AV) : au K Kp (.ret x) U = K x U := rfl
@[simp] theorem WO (x : AV) : au K Kp (.panic x) U = Kp x U := rfl
end
@[simp] theorem WQ (b : Bool) (A B : Prop) : ao (.bool b) A B = ((b = true -> A) /\ (b = false -> B)) := rfl
theorem bh (A B : Prop) : ao (.bool true) A B = A := by simp [ao]
theorem aV (A B : Prop) : ao (.bool false) A B = B := by simp [ao]
theorem aX (p : Prop) [Decidable p] (A B : Prop) : ao (.bool (decide p)) A B = ((p -> A) /\ (¬ p -> B)) := by simp [ao]
@[simp] theorem aI (b w : Bool) : ar (.bool b) w = .bool (b == w) := rfl
@[simp] theorem abd (w : Bool) : ar (.aQ []) w = .bool false := rfl
@[simp] theorem fT (v : AV) : Aj true v = v := rfl
@[simp] theorem zj (v : AV) : Aj false v = .aQ [] := rfl
@[simp] theorem aB (C : cu) (b : Bool) (r : av) (k : AV -> Prop) : ad C (.bool b) r k = dH C b r k := rfl
@[simp] theorem jl (C : cu) (b : Bool) (v : AV) (k : AV -> Prop) : dH C b (.val v) k = k (Aj b v) := rfl
@[simp] theorem WS (C : cu) (b : Bool) (p : Prop) [Decidable p] (r : av) (k : AV -> Prop) : dH C b (.cond p r) k = ((b = true -> p) /\ dH C b r k) := rfl
@[simp] theorem VG (C : cu) (b : Bool) (f : FuncId) (args : List AV) (k : AV -> Prop) : dH C b (.enter f args) k = ∃ v, (b = true -> Pure C f args v) /\ k (Aj b v) := rfl
@[simp] theorem a8 (C : cu) (k : AV -> Prop) : ∀ r : av, (dH C false r k) = k (.aQ [])
 | .val v => rfl
 | @av.cond _ _ r => by simp only [dH]; rw [a8 C k r]; simp
 | .enter _ _ => by simp [dH]
 | .jD _ _ _ => by simp [dH]
 | .new _ _ _ => by simp [dH]
 | .ji _ _ => by simp [dH]
 | .yield _ _ => by simp [dH]
 | .panic _ => by simp [dH]
 | .bad => by simp [dH]
@[simp] theorem aw (C : cu) (v : AV) (k : AV -> Prop) : aC C (.val v) k = k v := rfl
@[simp] theorem gG (C : cu) (p : Prop) [Decidable p] (r : av) (k : AV -> Prop) : aC C (.cond p r) k = (p /\ aC C r k) := rfl
@[simp] theorem DK (C : cu) (f : FuncId) (args : List AV) (k : AV -> Prop) : aC C (.enter f args) k = ∃ v, Pure C f args v /\ k v := rfl
theorem rD (C : cu) (k : AV -> Prop) : ∀ r : av, dH C true r k = aC C r k
 | .val v => rfl
 | @av.cond _ _ r => by simp only [dH, aC, rD C k r]; simp
 | .enter _ _ => by simp [dH, aC]
 | .jD _ _ _ => by simp [dH, aC]
 | .new _ _ _ => by simp [dH, aC]
 | .ji _ _ => by simp [dH, aC]
 | .yield _ _ => by simp [dH, aC]
 | .panic _ => by simp [dH, aC]
 | .bad => by simp [dH, aC]
@[simp] theorem bp (C : cu) (k : AV -> Prop) (r : av) : dH C true r k = aC C r k := rD C k r
theorem oc (C : cu) (k : AV -> Prop) (r : av) (p : Prop) [Decidable p] : dH C (decide p) r k = ((p -> aC C r k) /\ (¬ p -> k (.aQ []))) := by
 by_cases h : p <;> simp [h]
theorem mO (C : cu) (k : AV -> Prop) (r : av) (p : Prop) [Decidable p] : dH C (!decide p) r k = ((p -> k (.aQ [])) /\ (¬ p -> aC C r k)) := by
 by_cases h : p <;> simp [h]
@[simp] theorem az (b : Bool) (x y : AV) : aR (.bool b) x y = .val (if b = true then x else y) := rfl
@[simp] theorem ite_bool (b x y : Bool) : (if b = true then AV.bool x else AV.bool y) = .bool (if b = true then x else y) := by split <;> rfl
section
variable (bt : BT) (l : Bool) (k : IntKind) (a b : Int) (s t : List UInt8)
@[simp] theorem aW : ak .eql bt l (.int k a) (.int k b) = .val (.bool (decide (a = b))) := by simp only [ak, if_true]; rfl
@[simp] theorem ct : ak .neq bt l (.int k a) (.int k b) = .val (.bool (!decide (a = b))) := by simp only [ak, if_true]; rfl
@[simp] theorem bj : ak .lss bt l (.int k a) (.int k b) = .val (.bool (decide (a < b))) := by simp only [ak, if_true]
@[simp] theorem fw : ak .leq bt l (.int k a) (.int k b) = .val (.bool (decide (a <= b))) := by simp only [ak, if_true]
@[simp] theorem dD : ak .gtr bt l (.int k a) (.int k b) = .val (.bool (decide (b < a))) := by simp only [ak, if_true, gt_iff_lt]
@[simp] theorem dR : ak .geq bt l (.int k a) (.int k b) = .val (.bool (decide (b <= a))) := by simp only [ak, if_true, ge_iff_le]
@[simp] theorem js : ak .add bt l (.int k a) (.int k b) = gk k (a + b) := by simp only [ak, if_true]
@[simp] theorem fx : ak .sub bt l (.int k a) (.int k b) = gk k (a - b) := by simp only [ak, if_true]
@[simp] theorem Er : ak .mul bt l (.int k a) (.int k b) = gk k (a * b) := by simp only [ak, if_true]
@[simp] theorem WM : ak .quo bt l (.int k a) (.int k b) = .cond (b ≠ 0) (gk k (a.tdiv b)) := by simp only [ak, if_true]
@[simp] theorem WN : ak .rem bt l (.int k a) (.int k b) = .cond (b ≠ 0) (.val (.int k (a.tmod b))) := by simp only [ak, if_true]
@[simp] theorem gb : ak .eql bt l (.str s) (.str t) = .val (.bool (decide (s = t))) := by
 show av.val (.bool (s == t)) = _
 rw [show (s == t) = decide (s = t) from lL.2 (by simp)]
@[simp] theorem jt : ak .neq bt l (.str s) (.str t) = .val (.bool (!decide (s = t))) := by
 show av.val (.bool (s != t)) = _
 rw [show (s != t) = !decide (s = t) from lL.2 (by simp)]
@[simp] theorem WJ : ak .add bt l (.str s) (.str t) = .cond (s.length + t.length <= 4294967296) (.val (.str (s ++ t))) := rfl
@[simp] theorem TX (x y : Bool) (i p : Bool) (f : Option (List FK)) (sl : Bool) : ak .eql ⟨true, i, p, f, sl⟩ l (.bool x) (.bool y) = .val (.bool (x == y)) := by simp only [ak, if_true]
@[simp] theorem uS (x y : Bool) (i p : Bool) (f : Option (List FK)) (sl : Bool) : ak .neq ⟨true, i, p, f, sl⟩ l (.bool x) (.bool y) = .val (.bool (x != y)) := by simp only [ak, if_true]
@[simp] theorem WK (x y : List AV) (i p q : Bool) (f : List FK) (sl : Bool) : ak .eql ⟨q, i, p, some f, sl⟩ l (.agg x) (.agg y) = so .bool (mi f x y) := rfl
@[simp] theorem WL (x y : List AV) (i p q : Bool) (f : List FK) (sl : Bool) : ak .neq ⟨q, i, p, some f, sl⟩ l (.agg x) (.agg y) = so (fun r => .bool (!r)) (mi f x y) := rfl
@[simp] theorem ZM (f : Bool -> AV) (r : Bool) : so f (some r) = .val (f r) := rfl
@[simp] theorem cU (x : Bool) : fo .not (.bool x) = .val (.bool (!x)) := rfl
@[simp] theorem er : gk .i64 a = .cond (uy a) (.val (.int .i64 a)) := rfl
@[simp] theorem Cl : gk .u8 a = .val (.int .u8 (IntKind.u8.wrap a)) := rfl
end
theorem aZ {n : Int} (h1 : -9223372036854775808 <= n) (h2 : n <= 9223372036854775807) : uy n := ⟨h1, h2⟩
section
variable (sz b o : Nat) (p v : AV) (U : St) (L l : List AV)
theorem qD {U : St} {b : Nat} {L : List AV} (h : U.box b = some L) (n o : Nat) : aq (some (false, n)) (.box b o) U = fW (L.drop o) := by simp [aq, jL, h]
theorem Jx {U : St} {b : Nat} {L : List AV} (h : U.box b = some L) (n o : Nat) : aq (some (true, n)) (.box b o) U = .cond (n <= (L.drop o).length) (.val (.agg ((L.drop o).take n))) := by simp [aq, jL, h]
@[simp] theorem rp : aq (some (false, sz)) (.cj L) U = fW L := rfl
@[simp] theorem Hn : aq (some (true, sz)) (.cj L) U = .cond (sz <= L.length) (.val (.agg (L.take sz))) := rfl
@[simp] theorem dt (x : AV) : fW (x :: L) = .val x := rfl
theorem j0 {U : St} {b : Nat} {L : List AV} (h : U.box b = some L) (t : Bool) (n o : Nat) (v : AV) : aM (some (t, n)) (.box b o) v U = .cond (v.cS = true /\ (ax v).length = n /\ o + n <= L.length) (.jD (.aQ []) b (.box (aA L o (ax v)))) := by simp [aM, h]
@[simp] theorem dk : bC (.box b o) = .val (.box b o) := rfl
@[simp] theorem BM : bC (.cj L) = .val (.cj L) := rfl
@[simp] theorem Sn (f : Nat) (x y : List AV) : bC (.func (.func f) x y) = .val (.func (.func f) x y) := rfl
@[simp] theorem aU (k : Nat) : ag (some k) (.box b o) = .val (.box b (o + k)) := rfl
@[simp] theorem dr (k : Nat) : ag (some k) (.cj L) = .val (.cj (L.drop k)) := rfl
@[simp] theorem GG (k n : Nat) : qY (some (k, false, n)) (.agg L) = fW (L.drop k) := rfl
@[simp] theorem XD (k n : Nat) : qY (some (k, true, n)) (.agg L) = .cond (k + n <= L.length) (.val (.agg ((L.drop k).take n))) := rfl
@[simp] theorem uH (e n : Nat) (c : iV) (k : IntKind) (j : Int) (at_ : Option (Nat × TypeId × Nat)) : aG (some (e, sz)) at_ (.vec n c L) (.int k j) = .cond (0 <= j /\ j < n) (.val (.cj (L.drop (j.toNat * sz)))) := rfl
@[simp] theorem Vj (e n z t : Nat) (k : IntKind) (j : Int) (at_ : Option (Nat × TypeId × Nat)) : aG (some (e, sz)) at_ (.ms b o n z t) (.int k j) = .cond (0 <= j /\ j < n /\ z = sz) (.val (.box b (o + j.toNat * sz))) := rfl
@[simp] theorem Bb (s : List UInt8) (k : IntKind) (j : Int) (at_ : Option (Nat × TypeId × Nat)) (vt : Option (Bool × Nat)) : eg true at_ vt (.str s) (.int k j) = .cond (0 <= j /\ j < s.length) (.val (.int .u8 (s.getD j.toNat 0).toNat)) := by simp [eg]
@[simp] theorem gT (s : List UInt8) : bB (some true) (.str s) = .val (.int .i64 s.length) := rfl
@[simp] theorem oG (n : Nat) (c : iV) : bB (some false) (.vec n c L) = .val (.int .i64 n) := rfl
@[simp] theorem Jt (n z e : Nat) : bB (some false) (.ms b o n z e) = .val (.int .i64 n) := rfl
@[simp] theorem len_nil : bB (some false) .al = .val (.int .i64 0) := rfl
@[simp] theorem bR (k : Nat) : bg (.aQ L) k = fW (L.drop k) := rfl
@[simp] theorem Ia : ax (.agg L) = L := rfl
@[simp] theorem AF (k : IntKind) (n : Int) : ax (.int k n) = [.int k n] := rfl
@[simp] theorem AG (s : List UInt8) : ax (.str s) = [.str s] := rfl
@[simp] theorem Xw (x : Bool) : ax (.bool x) = [.bool x] := rfl
@[simp] theorem Yv : ax (.box b o) = [.box b o] := rfl
@[simp] theorem Yw (n : Nat) (c : iV) : ax (.vec n c L) = [.vec n c L] := rfl
@[simp] theorem ZW (n z e : Nat) : ax (.ms b o n z e) = [.ms b o n z e] := rfl
@[simp] theorem Rp : ax .al = [.al] := rfl
@[simp] theorem T0 : ax .a7 = [.a7] := rfl
@[simp] theorem Xy (f : Go.Fn) (x y : List AV) : ax (.func f x y) = [.func f x y] := rfl
@[simp] theorem Xx (x y : List AV) : ax (.eI x y) = [.eI x y] := rfl
@[simp] theorem ZV (m : Nat) : ax (.mp m) = [.mp m] := rfl
@[simp] theorem N1 : (AV.agg L).cS = true := rfl
@[simp] theorem N2 (k : IntKind) (n : Int) : (AV.int k n).cS = true := rfl
@[simp] theorem N3 (s : List UInt8) : (AV.str s).cS = true := rfl
@[simp] theorem Zv (x : Bool) : (AV.bool x).cS = true := rfl
@[simp] theorem aaC : (AV.box b o).cS = true := rfl
@[simp] theorem aaD (n : Nat) (c : iV) : (AV.vec n c L).cS = true := rfl
@[simp] theorem abf (n z e : Nat) : (AV.ms b o n z e).cS = true := rfl
@[simp] theorem Sm : AV.al.cS = true := rfl
@[simp] theorem WR : AV.a7.cS = true := rfl
@[simp] theorem Zx (f : Go.Fn) (x y : List AV) : (AV.func f x y).cS = true := rfl
@[simp] theorem Zw (x y : List AV) : (AV.eI x y).cS = true := rfl
@[simp] theorem abe (m : Nat) : (AV.mp m).cS = true := rfl
@[simp] theorem AE (h : v.cS = true) : eH v = .cond True (.cr (ax v)) := by simp [eH, h]
@[simp] theorem lO (s : List UInt8) (sl : Option (TypeId × Nat)) (lo hi : Option AV) : eE true sl (.str s) lo hi = (match dq 0 lo, dq s.length hi with
 | some l, some h => .cond (0 <= l /\ l <= h /\ h <= s.length) (.val (.str ((s.take h.toNat).drop l.toNat)))
 | _, _ => .bad) := by
 simp only [eE]
 cases dq 0 lo <;> cases dq (s.length : Int) hi <;> rfl
@[simp] theorem gB (d : Int) : dq d none = some d := rfl
@[simp] theorem ij (d : Int) (k : IntKind) (n : Int) : dq d (some (.int k n)) = some n := rfl
@[simp] theorem vS (e n : Nat) (c : iV) (lo hi : Option AV) (st : Bool) : eE st (some (e, sz)) (.vec n c L) lo hi = (match dq 0 lo, dq n hi with
 | some a, some b => .cond (0 <= a /\ a <= b /\ b <= n) (.val (.vec (b.toNat - a.toNat) (pM c hi) ((L.take (b.toNat * sz)).drop (a.toNat * sz))))
 | _, _ => .bad) := by
 simp only [eE]
 cases dq 0 lo <;> cases dq (n : Int) hi <;> rfl
@[simp] theorem abg (k : IntKind) (a b : Int) : xP (.int k a) (.int k b) = .val (.int k (if b > a then b else a)) := by simp [xP]
@[simp] theorem FU (k : IntKind) (a b : Int) : rY (.int k a) (.int k b) = .val (.int k (if b < a then b else a)) := by simp [rY]
end
theorem aj.eq {R : cB -> St -> Prop} {x y : AV} {U : St} (h : R (.ret y) U) (e : x = y) : aj R x U := by subst e; exact aj.mk h
theorem Pure.go {C : cu} {f : FuncId} {args : List AV} {x : AV} {K : AV -> St -> Prop} {Kp : AV -> St -> Prop} {U : St} (h : Pure C f args x) (hk : K x U) : af C f args U (au K Kp) := h U _ hk
end Go.Rip
