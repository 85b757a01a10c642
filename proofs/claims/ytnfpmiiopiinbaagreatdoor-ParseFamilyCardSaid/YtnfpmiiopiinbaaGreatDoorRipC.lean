/- Lemmas for the proof: no conditions. -/
import Derived.Test.YtnfpmiiopiinbaaGreatDoorRipZz
import Derived.Test.YtnfpmiiopiinbaaGreatDoorRipB
set_option linter.unusedVariables false
set_option linter.unusedSimpArgs false
set_option linter.loopingSimpArgs false
namespace Go.Rip
open Go.RowKit
mutual
def flat : AV -> Bool
 | .bool _ | .int _ _ | .str _ | .a7 | .ax | .jS | .cX | .cI => true
 | .iface _ v => flat v
 | .agg l => yH l
 | .aO l => yH l
 | _ => false
def yH : List AV -> Bool
 | [] => true
 | x :: xs => flat x && yH xs
end
mutual
theorem aw.flat {g g' : Gh} : ∀ (x : AV) (v : Value), flat x = true -> aw g x v -> aw g' x v
 | .bool _, _, _, hr => hr
 | .int _ _, _, _, hr => hr
 | .str _, _, _, hr => hr
 | .a7, _, _, hr => hr
 | .ax, _, _, hr => hr
 | .jS, _, _, hr => hr
 | .cX, _, _, hr => hr
 | .cI, _, _, hr => hr
 | .iface t x, v, h, hr => by
   simp only [Rip.flat] at h
   simp only [aw] at hr ⊢
   obtain ⟨u, h1, h2⟩ := hr
   exact ⟨u, h1, aw.flat x u h h2⟩
 | .agg l, v, h, hr => by
   simp only [Rip.flat] at h
   simp only [aw] at hr ⊢
   obtain ⟨vs, h1, h2, h3⟩ := hr
   exact ⟨vs, h1, h2, aD.flat l _ h h3⟩
 | .aO l, v, h, hr => by
   simp only [Rip.flat] at h
   simp only [aw] at hr ⊢
   obtain ⟨vs, h1, h3⟩ := hr
   exact ⟨vs, h1, aD.flat l _ h h3⟩
theorem aD.flat {g g' : Gh} : ∀ (l : List AV) (vs : List Value), yH l = true -> aD g l vs -> aD g' l vs
 | [], vs, _, h => by cases vs <;> simp_all [aD]
 | x :: xs, vs, h, hr => by
   simp only [yH, bP] at h
   simp only [aD] at hr ⊢
   obtain ⟨v, vs', h1, h2, h3⟩ := hr
   exact ⟨v, vs', h1, aw.flat x v h.1 h2, aD.flat xs vs' h.2 h3⟩
end
theorem af.R4 {C : cr} {f : Nat} {args args0 : List AV} {U : St} {R : cB -> St -> Prop} {x : AV} (d : Nat) (yP : ∀ i, closed (C.u6 i) = true)
 (hw : ∀ g vs, aD g (args.map (resolve d U)) vs -> aD g args0 vs) (hargs : bG args0 = true) (hx : flat x = true) (h : Pure C f args0 x) (hR : R (.ret x) U) : af C f args U R := by
 intro g w vs hs hG ha
 have PI := hs.zb
 let g0 : Gh := { base := w.heap.size, w0 := w, place := fun _ => none, bO := (g.all w).bO, bE := (g.all w).bE, res := fun _ => false }
 have qX : aZ g0 (br ⟨.e, 0⟩) w := {
  below := Below.refl _ _
  le := de _
  bO := fun q o u hu => te hs q o u hu
  bE := fun q es c hu => rF hs q es c hu
  live := fun b x hb => by cases hb
  apart := fun b b' x x' p p' hb => by cases hb
  res := fun r hr => by cases hr
  fin := ⟨0, fun n hn => by cases hn; rfl, fun _ _ => rfl⟩ }
 have Ij : fJ C g0 := ⟨fun i => aw.closed (g := g) (g' := g0) (fun _ _ _ h => PI.bO _ _ _ h) (fun _ _ h => PI.bE _ _ h) _ _ (yP i) (hG.1 i), fun i cs hi => by
  obtain ⟨k1, t, fr, k2⟩ := hG.2 i cs hi
  refine ⟨Nat.lt_of_lt_of_le k1 hs.le, t, fr, ?_⟩
  show w.heap[i]? = _
  rw [hs.below.block i k1]; exact k2⟩
 have Ur : aD g0 args0 vs := aD.closed (g := g.all w) (g' := g0) (fun _ _ _ h => h) (fun _ _ h => h) _ _ hargs (hw _ _ (x9 (fun x v _ hr => xw hs d x v hr) ha))
 refine (h (br ⟨.e, 0⟩) (fun r _ => r = .ret x) rfl g0 w vs qX Ij Ur).mono ?_
 rintro e w' hp
 cases e with
 | panicked ch => obtain ⟨g', ae, y, v, _, _, _, _, hz⟩ := hp; cases hz
 | outgrown => exact hp.elim
 | returned v =>
   obtain ⟨g', ae, y, h1, h2, h3, hz⟩ := hp
   cases hz
   have qk := h2.zb
   have hle := h1.trans qk
   have tp : Below w.heap.size w w' := by
    have := h2.below
    rw [h1.base, h1.w0] at this
    exact this
   let gF : Gh := { base := g.base, w0 := g.w0, place := g.place, bO := g.bO, bE := g.bE, res := g.res }
   have CU : Gh.Le g gF := ⟨rfl, rfl, fun _ _ h => h, fun b o u hu => hu, fun b u hu => hu, fun _ h => h, fun _ _ _ => rfl, fun _ _ => rfl⟩
   refine ⟨gF, U, x, CU, ?_, aw.flat x v hx h3, hR⟩
   exact {
    below := hs.below.trans (tp.mono hs.le)
    le := Nat.le_trans hs.le tp.size
    bO := fun q o u hu => te h2 q o u (hle.bO _ _ _ (PI.bO _ _ _ hu))
    bE := fun q es c hu => rF h2 q es c (hle.bE _ _ (PI.bE _ _ hu))
    live := fun b l hb => by
     obtain ⟨p, k1, k2, k3⟩ := hs.live b l hb
     have aJ := k3.lt
     exact ⟨p, k1, k2, k3.frame CU.r (tp.block _ aJ) (fun o => rfl) rfl⟩
    apart := hs.apart
    res := fun r hr => by
     obtain ⟨k1, k2⟩ := hs.res r hr
     exact ⟨k1, by rw [tp.block _ (iE.1 k2).1]; exact k2⟩
    fin := hs.fin }
inductive Wk : List AV -> List AV -> Prop
 | nil : Wk [] []
 | bL (x : AV) {l l' : List AV} : Wk l l' -> Wk (x :: l) (x :: l')
 | drop (x : AV) {l l' : List AV} : Wk l l' -> Wk (.any :: l) (x :: l')
theorem Wk.rep {g : Gh} {l l' : List AV} (h : Wk l l') : ∀ {vs : List Value}, aD g l' vs -> aD g l vs := by
 induction h with
 | nil => exact fun h => h
 | bL x _ ih =>
   intro vs h
   simp only [aD] at h ⊢
   obtain ⟨u, us, h1, h2, h3⟩ := h
   exact ⟨u, us, h1, h2, ih h3⟩
 | drop x _ ih =>
   intro vs h
   simp only [aD] at h ⊢
   obtain ⟨u, us, h1, h2, h3⟩ := h
   exact ⟨u, us, h1, by simp only [aw], ih h3⟩
theorem Wk.cj {g : Gh} {l l' r : List AV} {vs : List Value} (h : Wk l l') (hr : aD g (.cj l' :: r) vs) : aD g (.cj l :: r) vs := by
 simp only [aD, aw] at hr ⊢
 obtain ⟨u, us, h1, ⟨aG, off, ws, h2, h3, h4⟩, h5⟩ := hr
 exact ⟨u, us, h1, ⟨aG, off, ws, h2, h3, h.rep h4⟩, h5⟩
theorem Wk.any : ∀ (l : List AV), Wk (l.map fun _ => .any) l
 | [] => .nil
 | x :: l => .drop x (Wk.any l)
end Go.Rip
namespace Go.Rip
open Go.RowKit
def ao (vt : Option (Bool × Nat)) (p : AV) (U : St) : av :=
 match vt, jK U p with
 | some (true, sz), some l => .cond (sz <= l.length) (.val (.agg (l.take sz)))
 | some (false, _), some l => fT l
 | _, _ => .bad
def aQ (vt : Option (Bool × Nat)) (p v : AV) (U : St) : av :=
 match vt, p with
 | some (_, sz), .box b off => match U.box b with
   | some l => .cond (v.cS = true /\ (aA v).length = sz /\ off + sz <= l.length) (.jD (.aO []) b (.box (aH l off (aA v))))
   | none => .bad
 | _, _ => .bad
def Sz (t : TypeId) (z : Option (List AV)) : av :=
 match z with
 | some l => Ck t l
 | none => .bad
def c6 (st : Option (List (Nat × Nat))) (z : Option (List AV)) (at_ : Option (Nat × TypeId × Nat)) (parts : List (Nat × AV)) : av :=
 match st, z with
 | some pl, some z => eO (fun i => pl[i]?) parts z fun z => .val (.agg z)
 | none, some z => match at_ with
   | some (_, _, sz) => eO (fun i => some (i * sz, sz)) parts z fun z => .val (.agg z)
   | none => .bad
 | _, _ => .bad
def aM (sl : Option (TypeId × Nat)) (z : Option (List AV)) (n : Nat) (mu : Bool) (parts : List (Nat × AV)) : av :=
 match sl with
 | some (e, sz) => match z with
   | some z => .cond (n * sz <= 16777216) (eO (fun i => some (i * sz, sz)) parts (bN n z) fun cs => .cond (cs.length = n * sz) (if mu then .lT n sz e none cs else .val (.vec n .full cs)))
   | none => .bad
 | none => .bad
def hZ (mt : Option (FK × TypeId)) (m k v : AV) (U : St) : av :=
 match mt, m with
 | some (fk, _), .mp id => match U.mp id with
   | some (ks, vs) => match jG fk k ks 0, nV fk k with
     | some none, true => .jD (.aO []) id (.mp (fl k v ks vs).1 (fl k v ks vs).2)
     | some (some i), true => .jD (.aO []) id (.mp ks (vs.set i v))
     | _, _ => .bad
   | none => .bad
 | _, _ => .bad
def fx (mt : Option (FK × TypeId)) (z : Option AV) (m k : AV) (ok : Bool) (U : St) : av :=
 match mt, j6 U m with
 | some (fk, e), some (ks, vs) => match z, nV fk k with
   | some z, true => kg fk k z ok ks vs
   | _, _ => .bad
 | _, _ => .bad
def ti (it : Option IntKind) (is : Bool) (ss bs : Bool) (x : AV) : av :=
 match it, is, x with
 | some .i64, true, .int _ n => .cond (uu n) (.val (.int .i64 n))
 | some k, true, .int _ n => .val (.int k (k.wrap n))
 | none, true, .str s => if ss = true then .val (.str s) else
   if bs = true then .cond (s.length <= 4294967296) (.val (.vec s.length .hC (s.map fun b => .int .u8 b.toNat))) else .bad
 | _, _, _ => .bad
def dU (st : Bool) (sl : Option (TypeId × Nat)) (x : AV) (lo hi : Option AV) : av :=
 match x with
 | .str s => match st, cV 0 lo, cV s.length hi with
   | true, some l, some h => .cond (0 <= l /\ l <= h /\ h <= s.length) (.val (.str ((s.take h.toNat).drop l.toNat)))
   | _, _, _ => .bad
 | .vec n cap l => match sl, cV 0 lo, cV n hi with
   | some (_, sz), some a, some b => .cond (0 <= a /\ a <= b /\ b <= n) (.val (.vec (b.toNat - a.toNat) (oN cap hi) ((l.take (b.toNat * sz)).drop (a.toNat * sz))))
   | _, _, _ => .bad
 | .ax => match sl, cV 0 lo, cV 0 hi with
   | some (_, _), some a, some b => .cond (a = 0 /\ b = 0) (.val .ax)
   | _, _, _ => .bad
 | .ms b off n gy e => match sl, cV 0 lo, cV n hi with
   | some (_, sz), some a, some h => .cond (0 <= a /\ a <= h /\ h <= n /\ (a < n \/ a = 0) /\ gy = sz) (.val (.ms b (off + a.toNat * sz) (h.toNat - a.toNat) gy e))
   | _, _, _ => .bad
 | _ => .bad
def ah (ft : Option Nat) (p : AV) : av :=
 match ft, p with
 | some o, .box b off => .val (.box b (off + o))
 | some o, .cj l => .val (.cj (l.drop o))
 | _, _ => .bad
def qQ (fv : Option (Nat × Bool × Nat)) (x : AV) : av :=
 match fv, x with
 | some (o, true, n), .agg l => .cond (o + n <= l.length) (.val (.agg ((l.drop o).take n)))
 | some (o, false, _), .agg l => fT (l.drop o)
 | _, _ => .bad
def TY (at_ : Option (Nat × TypeId × Nat)) (x i : AV) : av :=
 match at_, x, i with
 | some (n, _, sz), .cj l, .int _ j => .cond (0 <= j /\ j < n) (.val (.cj (l.drop (j.toNat * sz))))
 | some (n, _, sz), .box b off, .int _ j => .cond (0 <= j /\ j < n) (.val (.box b (off + j.toNat * sz)))
 | _, _, _ => .bad
def aF (sl : Option (TypeId × Nat)) (at_ : Option (Nat × TypeId × Nat)) (x i : AV) : av :=
 match sl, x, i with
 | none, x, i => TY at_ x i
 | some (_, sz), .vec n _ l, .int _ j => .cond (0 <= j /\ j < n) (.val (.cj (l.drop (j.toNat * sz))))
 | some (_, sz), .ms b off n gy _, .int _ j => .cond (0 <= j /\ j < n /\ gy = sz) (.val (.box b (off + j.toNat * sz)))
 | _, _, _ => .bad
def ey (st : Bool) (at_ : Option (Nat × TypeId × Nat)) (vt : Option (Bool × Nat)) (x i : AV) : av :=
 match x, i with
 | .str s, .int _ j => if st = true then .cond (0 <= j /\ j < s.length) (.val (.int .u8 (s.getD j.toNat 0).toNat)) else .bad
 | .agg l, .int _ j => match at_ with
   | some (n, e, sz) => match vt with
     | some (false, _) => .cond (0 <= j /\ j < n) (fT (l.drop (j.toNat * sz)))
     | some (true, k) => .cond (0 <= j /\ j < n /\ k = sz /\ j.toNat * sz + sz <= l.length) (.val (.agg ((l.drop (j.toNat * sz)).take sz)))
     | none => .bad
   | none => .bad
 | _, _ => .bad
def tJ (b : Bool) (t : TypeId) (x : AV) : av := if b = true then .val (.iface t x) else .bad
def vO (mt : Option (FK × TypeId)) (m : AV) : av :=
 match mt, m with
 | some _, .eL ks vs => .new .it none (.iter (ks.zip vs) none)
 | _, _ => .bad
def sc (z : Option AV) (x : AV) (t : TypeId) (ok : Bool) : av :=
 match z, x with
 | some z, .iface u v => if u = t then .val (if ok then .aO [v, .bool true] else v) else if ok then .val (.aO [z, .bool false]) else .bad
 | some z, .cI => if ok then .val (.aO [z, .bool false]) else .bad
 | _, _ => .bad
def pG (sl : Option (TypeId × Nat)) (z : Option (List AV)) (mu : Bool) (l c : AV) : av :=
 match sl, l, c with
 | some (e, sz), .int _ l, .int _ c => match z with
   | some z => .cond (0 <= l /\ l = c /\ c <= 65536) (if mu then .lT l.toNat sz e none (bN l.toNat z) else .kI l.toNat (bN l.toNat z) none ⟨l.toNat, e, sz⟩)
   | none => .bad
 | _, _, _ => .bad
def yz (sl : Option (TypeId × Nat)) (z : Option (List AV)) (x : AV) (U : St) : av :=
 match sl, x with
 | some (e, sz), .ms b off n gy _ => match U.box b, z with
   | some l, some z => .cond (gy = sz /\ off + n * sz <= l.length) (.jD (.aO []) b (.box (aH l off (bN n z))))
   | _, _ => .bad
 | _, _ => .bad
def bw (lt : Option Bool) (x : AV) : av :=
 match lt, x with
 | some true, .str s => .val (.int .i64 s.length)
 | some false, .vec n _ _ => .val (.int .i64 n)
 | some false, .ms _ _ n _ _ => .val (.int .i64 n)
 | some false, .ax => .val (.int .i64 0)
 | _, _ => .bad
def eJ (ap : Option (TypeId × Nat)) (mu : Bool) (s y : AV) (U : St) : av :=
 match ap, pn U y with
 | some (e, sz), some (m, l2) =>
   .cond (l2.length = m * sz) (match s with
   | .ax => if m = 0 then .val .ax else .cond (m <= 4294967296) (if mu then .lT m sz e none l2 else .kI m l2 none ⟨m, e, sz⟩)
   | .vec n .full l => if m = 0 then .val s else .cond (l.length = n * sz /\ n + m <= 4294967296) (.kI (n + m) (l ++ l2) none ⟨n + m, e, sz⟩)
   | .vec n (.own τ) l => .cond (U.tok τ = some ⟨n, e, sz⟩ /\ l.length = n * sz /\ n + m <= 4294967296) (.kI (n + m) (l ++ l2) (some τ) ⟨n + m, e, sz⟩)
   | .ms b off n gy e' => match U.box b with
     | some l => .cond (off = 0 /\ gy = sz /\ e' = e /\ n * sz <= l.length /\ n + m <= 4294967296) (.lT (n + m) sz e (some b) (l.take (n * sz) ++ l2))
     | none => .bad
   | _ => .bad)
 | _, _ => .bad
structure BT where
 b : Bool
 i : Bool
 p : Bool
 f : Option (List FK)
 s : Bool
def T4 (P : Program) (t : TypeId) : BT := ⟨sL P t, iy P t, jQ P t, GA P t, mZ P t⟩
def Pv (f : Option (List FK)) (a b : List AV) : Option Bool :=
 match f with
 | some ks => l9 ks a b
 | none => none
def ak (op : BinOp) (bt : BT) (lit : Bool) (x y : AV) : av :=
 match op, x, y with
 | .eql, .cI, .cI => if bt.i = true /\ lit = true then .val (.bool true) else .bad
 | .neq, .cI, .cI => if bt.i = true /\ lit = true then .val (.bool false) else .bad
 | .add, .int k a, .int k' b => if k = k' then gb k (a + b) else .bad
 | .sub, .int k a, .int k' b => if k = k' then gb k (a - b) else .bad
 | .mul, .int k a, .int k' b => if k = k' then gb k (a * b) else .bad
 | .quo, .int k a, .int k' b => if k = k' then .cond (b ≠ 0) (gb k (a.tdiv b)) else .bad
 | .rem, .int k a, .int k' b => if k = k' then .cond (b ≠ 0) (.val (.int k (a.tmod b))) else .bad
 | .and, .int k a, .int k' b => if k = k' then .val (.int k (k.wrap (BitVec.ofInt k.bits a &&& BitVec.ofInt k.bits b).toNat)) else .bad
 | .or, .int k a, .int k' b => if k = k' then .val (.int k (k.wrap (BitVec.ofInt k.bits a ||| BitVec.ofInt k.bits b).toNat)) else .bad
 | .eql, .int k a, .int k' b => if k = k' then .val (.bool (a == b)) else .bad
 | .neq, .int k a, .int k' b => if k = k' then .val (.bool (a != b)) else .bad
 | .lss, .int k a, .int k' b => if k = k' then .val (.bool (decide (a < b))) else .bad
 | .leq, .int k a, .int k' b => if k = k' then .val (.bool (decide (a <= b))) else .bad
 | .gtr, .int k a, .int k' b => if k = k' then .val (.bool (decide (a > b))) else .bad
 | .geq, .int k a, .int k' b => if k = k' then .val (.bool (decide (a >= b))) else .bad
 | .eql, .str a, .str b => .val (.bool (a == b))
 | .neq, .str a, .str b => .val (.bool (a != b))
 | .add, .str a, .str b => .cond (a.length + b.length <= 4294967296) (.val (.str (a ++ b)))
 | .eql, .bool a, .bool b => if bt.b = true then .val (.bool (a == b)) else .bad
 | .neq, .bool a, .bool b => if bt.b = true then .val (.bool (a != b)) else .bad
 | .eql, .agg a, .agg b => sh .bool (Pv bt.f a b)
 | .neq, .agg a, .agg b => sh (fun r => .bool (!r)) (Pv bt.f a b)
 | .eql, .iface _ _, .cI => if bt.i = true then .val (.bool false) else .bad
 | .neq, .iface _ _, .cI => if bt.i = true then .val (.bool true) else .bad
 | .eql, .a7, .a7 => if bt.p = true then .val (.bool true) else .bad
 | .eql, .box _ _, .a7 => if bt.p = true then .val (.bool false) else .bad
 | .neq, .a7, .a7 => if bt.p = true then .val (.bool false) else .bad
 | .neq, .box _ _, .a7 => if bt.p = true then .val (.bool true) else .bad
 | .eql, .cj _, .a7 => if bt.p = true then .val (.bool false) else .bad
 | .neq, .cj _, .a7 => if bt.p = true then .val (.bool true) else .bad
 | .eql, .ax, .ax => if bt.s = true then .val (.bool true) else .bad
 | .eql, .vec _ _ _, .ax => if bt.s = true then .val (.bool false) else .bad
 | .eql, .ms _ _ _ _ _, .ax => if bt.s = true then .val (.bool false) else .bad
 | _, _, _ => .bad
theorem Ri (P : Program) (op : BinOp) (t : TypeId) (lit : Bool) (x y : AV) : ak op (T4 P t) lit x y = Cp P op t lit x y := by
 unfold ak Cp Gk
 cases op <;> cases x <;> cases y <;> rfl
def ta (P : Program) (t : TypeId) : Option (List AV) := match eg P t with
 | some (e, _) => mV P e
 | none => none
def Pt (P : Program) (t : TypeId) : Option (Bool × Nat) := match rG P t with
 | some (_, e, _) => kY P e
 | none => none
def MS (P : Program) (t : TypeId) : Option AV := match nY P t with
 | some (_, e) => zeroV P e
 | none => none
def MX (gt : Option (TypeId × Nat × List AV)) (ap : Option (TypeId × Nat)) (mu : Bool) (s y : AV) (U : St) : av :=
 match gt with
 | some q => BU q mu s y
 | none => eJ ap mu s y U
def Gp (C : cr) (mu : Bool) (c : Call) (ρ : Env) (U : St) : av :=
 match c.callee, c.argTypes.toList, c.args.toList with
 | .value (.func f), _, args => if dz C.P f = true then .enter f (args.map (ρ.ev C)) else .bad
 | .value f, _, args => fM C.P (ρ.ev C f) (args.map (ρ.ev C))
 | .builtin .len, [t], [x] => bw (G5 C.P t) (ρ.ev C x)
 | .builtin .append, [t, u], [s, y] => MX (yK C.P t u) (Gi C.P t u) mu (ρ.ev C s) (ρ.ev C y) U
 | .builtin .cap, [t], [x] => Cu (eg C.P t) (ρ.ev C x)
 | .builtin .min, _, [x, y] => rT (ρ.ev C x) (ρ.ev C y)
 | .builtin .max, _, [x, y] => xV (ρ.ev C x) (ρ.ev C y)
 | .builtin .clear, [t], [x] => yz (eg C.P t) (ta C.P t) (ρ.ev C x) U
 | _, _, _ => .bad
def sO (C : cr) (mu : Bool) (o : Op) (ρ : Env) (U : St) : av :=
 match o with
 | .move x | .assign x => .val (ρ.ev C x)
 | .pick c a b => aP (ρ.ev C c) (ρ.ev C a) (ρ.ev C b)
 | .alloc t => Sz t (mV C.P t)
 | .box _ x => dZ (ρ.ev C x)
 | .build t parts => c6 (wE C.P t) (mV C.P t) (rG C.P t) (jL C ρ parts)
 | .buildSlice t n parts => aM (eg C.P t) (ta C.P t) n mu (jL C ρ parts)
 | .insert t m k v | .mapUpdate t m k v => hZ (nY C.P t) (ρ.ev C m) (ρ.ev C k) (ρ.ev C v) U
 | .load t a => ao (kY C.P t) (ρ.ev C a) U
 | .store t a v => aQ (kY C.P t) (ρ.ev C a) (ρ.ev C v) U
 | .nilCheck x => bz (ρ.ev C x)
 | .binOp op t x y _ => ak op (T4 C.P t) (isLit x || isLit y) (ρ.ev C x) (ρ.ev C y)
 | .unOp op _ x => fi op (ρ.ev C x)
 | .convert s d x => ti (GX C.P d) (C.P.underlying s).isSome (kG C.P d && kG C.P s) (tD C.P d && kG C.P s) (ρ.ev C x)
 | .makeInterface t x => tJ (vD C.P t) t (ρ.ev C x)
 | .makeFunc fn first cap => .val (.func fn (first.toList.map (ρ.ev C)) (cap.toList.map (ρ.ev C)))
 | .makeMap _ none => .BZ
 | .slice t x lo hi none => dU (kG C.P t) (eg C.P t) (ρ.ev C x) (lo.map (ρ.ev C)) (hi.map (ρ.ev C))
 | .fieldAddr s x f => ah (u3 C.P s f) (ρ.ev C x)
 | .field s x f => qQ (wk C.P s f) (ρ.ev C x)
 | .indexAddr t x i => aF (eg C.P t) (rG C.P t) (ρ.ev C x) (ρ.ev C i)
 | .index t x i => ey (kG C.P t) (rG C.P t) (Pt C.P t) (ρ.ev C x) (ρ.ev C i)
 | .lookup t m k ok => fx (nY C.P t) (MS C.P t) (ρ.ev C m) (ρ.ev C k) ok U
 | .extract t i => aT (ρ.ev C t) i
 | .panic x => qA (ρ.ev C x)
 | .range t m => vO (nY C.P t) (ρ.ev C m)
 | .typeAssert x _ t ok => sc (wg C.P t) (ρ.ev C x) t ok
 | .makeSlice t l c => pG (eg C.P t) (ta C.P t) mu (ρ.ev C l) (ρ.ev C c)
 | .next i false => pI (ρ.ev C i) U
 | .entry i => mz (ρ.ev C i) U
 | .call c => Gp C mu c ρ U
 | _ => .bad
theorem M4 (C : cr) (mu : Bool) (c : Call) (ρ : Env) (U : St) : Gp C mu c ρ U = wh C mu c ρ U := by
 unfold Gp wh
 obtain ⟨callee, ⟨args⟩, ⟨QY⟩⟩ := c
 cases callee with
 | value f =>
   cases f <;> simp only [fM, Env.ev, jc, ja]
 | invoke r m => rfl
 | builtin b =>
   cases b
   case clear =>
    dsimp only
    rcases QY with _ | ⟨t, _ | ⟨u, _ | _⟩⟩ <;> rcases args with _ | ⟨x, _ | ⟨y, _ | _⟩⟩ <;> try rfl
    simp only [yz, uW, ta]
    generalize ρ.ev C x = y
    cases h : eg C.P t with
    | none => rfl
    | some es => (cases es; cases y <;> rfl)
   all_goals first | rfl | (dsimp only; rcases QY with _ | ⟨t, _ | ⟨u, _ | _⟩⟩ <;> rcases args with _ | ⟨x, _ | ⟨y, _ | _⟩⟩ <;> rfl)
theorem qz (C : cr) (mu : Bool) (o : Op) (ρ : Env) (U : St) : sO C mu o ρ U = gH C mu o ρ U := by
 cases o with
 | binOp op t x y yt => exact Ri _ _ _ _ _ _
 | call c => exact M4 _ _ _ _ _
 | buildSlice t n parts =>
   simp only [sO, gH, aM, oM, ta]
   cases h : eg C.P t with
   | none => rfl
   | some es => (cases es; rfl)
 | index t x i =>
   simp only [sO, gH, ey, yZ, Pt]
   generalize ρ.ev C x = y
   generalize ρ.ev C i = z
   cases h : rG C.P t with
   | none => cases y <;> rfl
   | some es => (cases es; cases y <;> cases z <;> rfl)
 | lookup t m k ok =>
   simp only [sO, gH, fx, sM, MS]
   generalize j6 U (ρ.ev C m) = y
   cases h : nY C.P t with
   | none => rfl
   | some es => (cases es; cases y <;> rfl)
 | makeSlice t l c =>
   simp only [sO, gH, pG, pF, ta]
   generalize ρ.ev C l = y
   generalize ρ.ev C c = z
   cases h : eg C.P t with
   | none => rfl
   | some es => (cases es; cases y <;> cases z <;> rfl)
 | convert s d x =>
   simp only [sO, gH, ti, BS, bP]
   rfl
 | makeMap t r => cases r <;> rfl
 | slice t x lo hi m => cases m <;> rfl
 | next i b => cases b <;> rfl
 | _ => rfl
end Go.Rip
namespace Go.Rip
open Go.RowKit
def Fn : Nat -> Type
 | 0 => St -> Prop
 | n + 1 => AV -> Fn n
namespace Fn
def app : (n : Nat) -> Fn n -> List AV -> St -> Prop
 | 0, f, _, U => f U
 | n + 1, f, x :: xs, U => app n (f x) xs U
 | n + 1, f, [], U => app n (f .any) [] U
def lam : (n : Nat) -> (List AV -> St -> Prop) -> Fn n
 | 0, F => fun U => F [] U
 | n + 1, F => fun x => lam n (fun xs U => F (x :: xs) U)
theorem nu : ∀ (n : Nat) (F : List AV -> St -> Prop) (xs : List AV) (U : St), xs.length = n -> app n (lam n F) xs U = F xs U
 | 0, F, [], U, _ => rfl
 | n + 1, F, x :: xs, U, h => nu n (fun xs U => F (x :: xs) U) xs U (by simpa using h)
 | 0, F, _ :: _, U, h => by simp at h
 | n + 1, F, [], U, h => by simp at h
def imp : (n : Nat) -> Fn n -> Fn n -> Prop
 | 0, f, g => ∀ U, f U -> g U
 | n + 1, f, g => ∀ x, imp n (f x) (g x)
theorem FF : ∀ {n : Nat} {f g : Fn n}, imp n f g -> ∀ (xs : List AV) (U : St), xs.length = n -> app n f xs U -> app n g xs U
 | 0, f, g, h, xs, U, _, hf => h U hf
 | n + 1, f, g, h, x :: xs, U, hl, hf => FF (h x) xs U (by simpa using hl) hf
 | n + 1, f, g, h, [], U, hl, hf => by simp at hl
theorem Fb : ∀ {n : Nat} {f g : Fn n}, (∀ (xs : List AV) (U : St), xs.length = n -> app n f xs U -> app n g xs U) -> imp n f g
 | 0, f, g, h => fun U hf => h [] U rfl hf
 | n + 1, f, g, h => fun x => Fb fun xs U hl hf => h (x :: xs) U (by simpa using hl) hf
end Fn
def zd : List Nat -> List AV -> Nat -> AV
 | s :: ss, x :: xs, t => cond (Nat.beq t s) x (zd ss xs t)
 | _, _, _ => .any
def zZ (live : List Nat) (vs : List AV) : Env := ⟨zd live vs⟩
theorem Bp (f : Nat -> AV) (t : Nat) : ∀ live : List Nat, zd live (live.map f) t = f t \/ zd live (live.map f) t = .any
 | [] => .inr rfl
 | s :: ss => by
   simp only [dx, zd]
   cases h : Nat.beq t s with
   | true => have := eo h; subst this; exact .inl rfl
   | false => exact Bp f t ss
theorem AP (ρ : Env) (live : List Nat) (t : Nat) : (zZ live (live.map ρ.get)).get t = ρ.get t \/ (zZ live (live.map ρ.get)).get t = .any := Bp ρ.get t live
section
variable {C : cr} {nt : Nat} {ro : Ro} {U : St} {ρ : Env}
theorem bp.Ga {c : Code} {Q : Ex -> Env -> St -> Prop} {dv : Env} (h : bp C nt ro c Q dv U) (hw : ∀ t, dv.get t = ρ.get t \/ dv.get t = .any) : bp C nt ro c Q ρ U :=
 fun g w a fr h1 h2 h3 h4 h5 => h g w a fr h1 h2 (fun t => by
  rcases hw t with e | e
  · rw [e]; exact h3 t
  · rw [e]; simp only [aw]) h4 h5
end
structure Qx where
 n : Env -> St -> Prop
 e : Nat -> Env -> St -> Prop
 r : Env -> St -> Prop
 p : AV -> St -> Prop
def Qx.q (Q : Qx) : Ex -> Env -> St -> Prop
 | .normal, ρ, U => Q.n ρ U
 | .exit i, ρ, U => Q.e i ρ U
 | .ret, ρ, U => Q.r ρ U
 | .panic x, _, U => Q.p x U
def XP (ops : Array Oper) (j : Nat) : Option Nat := (ops[j]?).bind (·.dst)
def aq (v : AV) (want : Bool) : AV := match v with
 | .bool b => .bool (b == want)
 | .aO [] => .bool false
 | _ => .any
def CI (ops : Array Oper) (ρ : Env) (jw : Nat × Bool) : AV := match XP ops jw.1 with
 | some d => aq (ρ.get d) jw.2
 | none => .any
theorem CJ (ops : Array Oper) (ρ : Env) (jw : Nat × Bool) : fS ops ρ (some jw) = CI ops ρ jw := rfl
def Au (b : Bool) (v : AV) : AV := match b with
 | true => v
 | false => .aO []
def dM (C : cr) (b : Bool) : av -> (AV -> Prop) -> Prop
 | .val v, k => k (Au b v)
 | @av.cond p _ r, k => (b = true -> p) /\ dM C b r k
 | .enter f args, k => ∃ v, (b = true -> Pure C f args v) /\ k (Au b v)
 | _, k => b = false /\ k (.aO [])
def ad (C : cr) (gv : AV) (r : av) (k : AV -> Prop) : Prop := match gv with
 | .bool b => dM C b r k
 | _ => False
theorem xr {C : cr} : ∀ (r : av) {k : AV -> Prop}, dM C true r k -> ∃ v, r.yv C v /\ k v
 | .val v, k, h => ⟨v, rfl, h⟩
 | @av.cond _ _ r, k, h => let ⟨v, h1, h2⟩ := xr r h.2; ⟨v, ⟨h.1 rfl, h1⟩, h2⟩
 | .enter _ _, k, h => let ⟨v, h1, h2⟩ := h; ⟨v, h1 rfl, h2⟩
 | .jD _ _ _, _, h => by cases h.1
 | .new _ _ _, _, h => by cases h.1
 | .ji _ _, _, h => by cases h.1
 | .yield _ _, _, h => by cases h.1
 | .panic _, _, h => by cases h.1
 | .bad, _, h => by cases h.1
theorem vL {C : cr} : ∀ (r : av) {k : AV -> Prop}, dM C false r k -> k (.aO [])
 | .val v, k, h => h
 | @av.cond _ _ r, k, h => vL r h.2
 | .enter _ _, k, h => let ⟨v, h1, h2⟩ := h; h2
 | .jD _ _ _, _, h => h.2
 | .new _ _ _, _, h => h.2
 | .ji _ _, _, h => h.2
 | .yield _ _, _, h => h.2
 | .panic _, _, h => h.2
 | .bad, _, h => h.2
theorem vM {C : cr} {gv : AV} {r : av} {k : AV -> Prop} (h : ad C gv r k) : (gv = .bool true /\ ∃ v, r.yv C v /\ k v) \/ (gv = .bool false /\ k (.aO [])) := by
 cases gv <;> simp only [ad] at h
 rename_i b
 cases b
 · exact .inr ⟨rfl, vL r h⟩
 · exact .inl ⟨rfl, xr r h⟩
def VL (pf : List Nat) (o : Op) : Bool := match o with
 | .call c => match c.callee with
   | .value (.func f) => pf.any fun g => Nat.beq g f
   | .value _ => false
   | _ => quiet o
 | o => quiet o
def De (C : cr) (o : Op) (ρ : Env) : Option AV := match o with
 | .move x | .assign x => some (ρ.ev C x)
 | .makeFunc fn first cap => some (.func fn (first.toList.map (ρ.ev C)) (cap.toList.map (ρ.ev C)))
 | _ => none
theorem Af {C : cr} {o : Op} {ρ : Env} {v : AV} (h : De C o ρ = some v) (mu : Bool) (U : St) : sO C mu o ρ U = .val v := by
 unfold De at h
 split at h
 · cases h; rfl
 · cases h; rfl
 · cases h; rfl
 · cases h
def rV (C : cr) (mu pf : List Nat) (ops : Array Oper) : List Oper -> Env -> St -> (Env -> St -> Prop) -> (AV -> St -> Prop) -> Prop
 | [], ρ, U, K, _ => K ρ U
 | o :: rest, ρ, U, K, Kp => match o.guard with
   | none => match De C o.op ρ with
     | some v => rV C mu pf ops rest (ρ.dT o.dst v) U K Kp
     | none => (sO C (nc mu o) o.op ρ U).wp C U (fun v U => rV C mu pf ops rest (ρ.dT o.dst v) U K Kp) Kp
   | some jw => match VL pf o.op with
     | true => ad C (CI ops ρ jw) (sO C (nc mu o) o.op ρ U) (fun v => rV C mu pf ops rest (ρ.dT o.dst v) U K Kp)
     | false => al (CI ops ρ jw) ((sO C (nc mu o) o.op ρ U).wp C U (fun v U => rV C mu pf ops rest (ρ.dT o.dst v) U K Kp) Kp)
       (rV C mu pf ops rest (ρ.dT o.dst (.aO [])) U K Kp)
theorem sP {C : cr} {mu pf : List Nat} {ops : Array Oper} {K : Env -> St -> Prop} {Kp : AV -> St -> Prop} : ∀ (l : List Oper) (ρ : Env) (U : St),
 rV C mu pf ops l ρ U K Kp -> mr C mu ops l ρ U K Kp
 | [], _, _, h => h
 | o :: rest, ρ, U, h => by
   have step : ∀ {r : av}, r.wp C U (fun v U => rV C mu pf ops rest (ρ.dT o.dst v) U K Kp) Kp ->
    r.wp C U (fun v ae => mr C mu ops rest (ρ.dT o.dst v) ae K Kp) Kp := fun hr => av.wp_mono (fun v ae hv => sP rest _ _ hv) _ hr
   simp only [rV] at h
   simp only [mr]
   show al (fS ops ρ o.guard) ((gH C (nc mu o) o.op ρ U).wp C U (fun v ae => mr C mu ops rest (ρ.dT o.dst v) ae K Kp) Kp) (mr C mu ops rest (ρ.dT o.dst (.aO [])) U K Kp)
   rw [<- qz]
   cases hg : o.guard with
   | none =>
     rw [hg] at h
     simp only at h
     refine ⟨fun _ => ?_, fun hf => (by cases hf)⟩
     split at h
     · rename_i v hv
       rw [Af hv]
       exact sP rest _ _ h
     · exact step h
   | some jw =>
     rw [hg] at h
     simp only at h
     rw [CJ]
     split at h
     · rcases vM h with ⟨hb, v, hv, hk⟩ | ⟨hb, hk⟩
       · rw [hb]
         refine ⟨fun _ => ?_, fun hf => (by cases hf)⟩
         exact av.HK _ hv (sP rest _ _ hk)
       · rw [hb]
         exact ⟨fun hf => (by cases hf), fun _ => sP rest _ _ hk⟩
     · cases hv : CI ops ρ jw <;> rw [hv] at h <;> simp only [al] at h ⊢
       exact ⟨fun e => step (h.1 e), fun e => sP rest _ _ (h.2 e)⟩
def az (C : cr) : av -> (AV -> Prop) -> Prop
 | .val v, k => k v
 | @av.cond p _ r, k => p /\ az C r k
 | .enter f args, k => ∃ v, Pure C f args v /\ k v
 | _, _ => False
theorem Bw {C : cr} : ∀ (r : av) {k : AV -> Prop}, az C r k -> ∃ v, r.yv C v /\ k v
 | .val v, k, h => ⟨v, rfl, h⟩
 | @av.cond _ _ r, k, h => let ⟨v, h1, h2⟩ := Bw r h.2; ⟨v, ⟨h.1, h1⟩, h2⟩
 | .enter _ _, k, h => h
 | .jD _ _ _, _, h => h.elim
 | .new _ _ _, _, h => h.elim
 | .ji _ _, _, h => h.elim
 | .yield _ _, _, h => h.elim
 | .panic _, _, h => h.elim
 | .bad, _, h => h.elim
def CO (C : cr) (ρ : Env) (o : Op) : List Nat := o.operands.toList.flatMap fun x => cT (ρ.ev C x)
def VO (b : Bool) (P k : Prop) : Prop := match b with
 | true => P /\ k
 | false => k
def Vo (b : Bool) (P k : Prop) : Prop := match b with
 | true => k
 | false => P /\ k
theorem I9 {ops : Array Oper} {i : Nat} {I : St -> Prop} {U : St} {k : Prop} (h : Vo (jh ops i) (I U) k) : Ix ops I i U /\ k := by
 unfold Ix
 cases ha : jh ops i <;> rw [ha] at h <;> simp only [Vo] at h
 · exact ⟨.inr h.1, h.2⟩
 · exact ⟨.inl rfl, h⟩
def zl (C : cr) (ops : Array Oper) (ρ : Env) (g : Option (Nat × Bool)) (i : Option AV) (r : av) (k : AV -> Prop) : Prop := match g with
 | none => match i with
   | some v => k v
   | none => az C r k
 | some jw => ad C (CI ops ρ jw) r k
def gW (ops : Array Oper) (ρ : Env) (g : Option (Nat × Bool)) (A B : Prop) : Prop := match g with
 | none => A
 | some jw => al (CI ops ρ jw) A B
def rp (C : cr) (mu : List Nat) (ops : Array Oper) (aE : St) (K : Env -> St -> Prop) (Kp : AV -> St -> Prop) (B : List Nat) : List (Bool × Nat) -> Env -> St -> Prop
 | [], ρ, U => K ρ U
 | (true, i) :: r, ρ, U => match ops[i]? with
   | none => False
   | some o => match quiet o.op with
     | false => False
     | true => VO (lW o.op) (∀ b ∈ CO C ρ o.op, b ∈ B) (zl C ops ρ o.guard (De C o.op ρ) (sO C (nc mu o) o.op ρ aE) fun v => rp C mu ops aE K Kp B r (ρ.dT o.dst v) U)
 | (false, i) :: r, ρ, U => match ops[i]? with
   | none => False
   | some o => gW ops ρ o.guard ((sO C (nc mu o) o.op ρ U).wp C U (fun v U => Vo (jh ops i) (cU B aE U) (rp C mu ops aE K Kp B r (ρ.dT o.dst v) U)) Kp)
      (rp C mu ops aE K Kp B r (ρ.dT o.dst (.aO [])) U)
def B1 (C : cr) (mu : List Nat) (ops : Array Oper) (aE : St) (K : Env -> St -> Prop) (Kp : AV -> St -> Prop) : List (Bool × Nat) -> List Nat -> Env -> St -> Prop
 | [], _, ρ, U => K ρ U
 | (true, i) :: r, B, ρ, U => match ops[i]? with
   | none => False
   | some o => match quiet o.op with
     | false => False
     | true => zl C ops ρ o.guard (De C o.op ρ) (sO C (nc mu o) o.op ρ aE) fun v => B1 C mu ops aE K Kp r (match lW o.op with | true => CO C ρ o.op ++ B | false => B) (ρ.dT o.dst v) U
 | (false, i) :: r, B, ρ, U => rp C mu ops aE K Kp B ((false, i) :: r) ρ U
section
variable {C : cr} {mu : List Nat} {ops : Array Oper} {aE : St} {K : Env -> St -> Prop} {Kp : AV -> St -> Prop}
theorem Nq {ρ : Env} {g : Option (Nat × Bool)} {A B : Prop} (h : gW ops ρ g A B) : (fS ops ρ g = .bool true /\ A) \/ (fS ops ρ g = .bool false /\ B) := by
 unfold gW at h
 cases g with
 | none => exact .inl ⟨rfl, h⟩
 | some jw =>
   simp only at h
   rw [CJ]
   cases hv : CI ops ρ jw <;> rw [hv] at h <;> simp only [al] at h
   rename_i b
   cases b
   · exact .inr ⟨rfl, h.2 rfl⟩
   · exact .inl ⟨rfl, h.1 rfl⟩
theorem vN {ρ : Env} {g : Option (Nat × Bool)} {i : Option AV} {r : av} {k : AV -> Prop} (hi : ∀ v, i = some v -> r = .val v) (h : zl C ops ρ g i r k) : (fS ops ρ g = .bool true /\ ∃ v, r.yv C v /\ k v) \/ (fS ops ρ g = .bool false /\ k (.aO [])) := by
 unfold zl at h
 cases g with
 | none =>
   cases i with
   | none => exact .inl ⟨rfl, Bw r h⟩
   | some v => rw [hi v rfl]; exact .inl ⟨rfl, v, rfl, h⟩
 | some jw => simp only at h; rw [CJ]; exact vM h
theorem yO {ρ : Env} {o : Op} {x : Operand} (hx : x ∈ o.operands.toList) {b : Nat} (hb : b ∈ cT (ρ.ev C x)) : b ∈ CO C ρ o := List.mem_flatMap.2 ⟨x, hx, hb⟩
theorem pV (B : List Nat) : ∀ (l : List (Bool × Nat)) (ρ : Env) (U : St), rp C mu ops aE K Kp B l ρ U -> kn C mu ops B aE K Kp l ρ U
 | [], _, _, h => h
 | (true, i) :: r, ρ, U, h => by
   simp only [rp] at h
   split at h
   · exact h.elim
   · rename_i o ho
     split at h
     · exact h.elim
     · rename_i hq
       have key : ∀ {P k : Prop}, VO (lW o.op) P k -> (lW o.op = true -> P) /\ k := fun {P k} h => by
        cases hr : lW o.op <;> rw [hr] at h <;> simp only [VO] at h
        · exact ⟨fun h => (by cases h), h⟩
        · exact ⟨fun _ => h.1, h.2⟩
       obtain ⟨hB, h⟩ := key h
       rcases vN (fun v hv => Af hv _ _) h with ⟨hg, v, hv, hk⟩ | ⟨hg, hk⟩
       · rw [qz] at hv
         exact ⟨o, v, ho, .inl ⟨hg, hq, fun hr x hx b hb => hB hr b (yO hx hb), hv⟩, pV B r _ _ hk⟩
       · exact ⟨o, .aO [], ho, .inr ⟨hg, rfl⟩, pV B r _ _ hk⟩
 | (false, i) :: r, ρ, U, h => by
   simp only [rp] at h
   simp only [kn, lY]
   split at h
   · exact h.elim
   · rename_i o ho
     rw [ho]
     simp only
     rw [qz] at h
     rcases Nq h with ⟨hg, h⟩ | ⟨hg, h⟩
     · rw [hg]
       exact ⟨fun _ => av.wp_mono (fun v U hv => ⟨(I9 (I := cU B aE) hv).1, pV B r _ _ (I9 (I := cU B aE) hv).2⟩) _ h, fun h => by cases h⟩
     · rw [hg]
       exact ⟨fun h => (by cases h), fun _ => pV B r _ _ h⟩
theorem Ao : ∀ (l : List (Bool × Nat)) (B : List Nat) (ρ : Env) (U : St), B1 C mu ops aE K Kp l B ρ U -> ∃ B', (∀ b ∈ B, b ∈ B') /\ kn C mu ops B' aE K Kp l ρ U
 | [], B, _, _, h => ⟨B, fun _ h => h, h⟩
 | (true, i) :: r, B, ρ, U, h => by
   simp only [B1] at h
   split at h
   · exact h.elim
   · rename_i o ho
     split at h
     · exact h.elim
     · rename_i hq
       rcases vN (fun v hv => Af hv _ _) h with ⟨hg, v, hv, hk⟩ | ⟨hg, hk⟩
       · rw [qz] at hv
         obtain ⟨B', hB, hA⟩ := Ao r _ _ _ hk
         refine ⟨B', fun b hb => hB b ?_, o, v, ho, .inl ⟨hg, hq, fun hr x hx b hb => hB b ?_, hv⟩, hA⟩
         · split
           · exact List.mem_append_right _ hb
           · exact hb
         · rw [hr]; exact List.mem_append_left _ (yO hx hb)
       · obtain ⟨B', hB, hA⟩ := Ao r _ _ _ hk
         refine ⟨B', fun b hb => hB b ?_, o, .aO [], ho, .inr ⟨hg, rfl⟩, hA⟩
         split
         · exact List.mem_append_right _ hb
         · exact hb
 | (false, i) :: r, B, ρ, U, h => ⟨B, fun _ h => h, pV B _ _ _ h⟩
end
structure Qr where
 Du : (St -> Prop) -> St -> Prop
 n : St -> Prop
 e : Nat -> St -> Prop
 r : St -> Prop
def pq : Nat -> Type
 | 0 => Qr -> St -> Prop
 | n + 1 => AV -> pq n
def pq.app : (n : Nat) -> pq n -> List AV -> Qr -> St -> Prop
 | 0, f, _, q, U => f q U
 | n + 1, f, x :: xs, q, U => pq.app n (f x) xs q U
 | n + 1, f, [], q, U => pq.app n (f .any) [] q U
def pq.lam : (n : Nat) -> (List AV -> Qr -> St -> Prop) -> pq n
 | 0, F => fun q U => F [] q U
 | n + 1, F => fun x => pq.lam n (fun xs q U => F (x :: xs) q U)
theorem pq.nu : ∀ (n : Nat) (F : List AV -> Qr -> St -> Prop) (xs : List AV) (q : Qr) (U : St), xs.length = n -> pq.app n (pq.lam n F) xs q U = F xs q U
 | 0, F, [], q, U, _ => rfl
 | n + 1, F, x :: xs, q, U, h => pq.nu n (fun xs U => F (x :: xs) U) xs q U (by simpa using h)
 | 0, F, _ :: _, q, U, h => by simp at h
 | n + 1, F, [], q, U, h => by simp at h
def eZ.st (L : eZ) (s : LoopState) (p : Option Code) : eZ := { L with state := s, eN := p }
def aaK (o : Nat) (k : St -> Prop) (U : St) : Prop := ∃ L, U.loop o = some L /\ L.state = .ready /\ k (U.set o (.loop { L with state := .busy }))
def aaL (o : Nat) (R : cB -> St -> Prop) : Qr where
 Du := aaK o
 n := fun U => ∃ L, U.loop o = some L /\ R (.ret (.bool true)) (U.set o (.loop { L with state := .ready, eN := none }))
 e := fun id U => ∃ L, U.loop o = some L /\ R (.ret (.bool false)) (U.set o (.loop { L with state := .done, eN := some (.exit id) }))
 r := fun U => ∃ L, U.loop o = some L /\ R (.ret (.bool false)) (U.set o (.loop { L with state := .done, eN := some .ret }))
def JJ (o : Nat) (Kn : St -> Prop) (Ke : Nat -> St -> Prop) (Kr : St -> Prop) (Kp : AV -> St -> Prop) : cB -> St -> Prop
 | .ret _, ae => ∃ L, ae.loop o = some L /\ L.state ≠ .busy /\ (match L.eN with
   | none => Kn (ae.del o)
   | some .ret => Kr (ae.del o)
   | some (.exit id) => Ke id (ae.del o)
   | _ => False)
 | .panic x, ae => Kp x ae
def qG (C : cr) (np : Nat) (fv : AV) (U : St) (B : pq np) (Kn : St -> Prop) (Ke : Nat -> St -> Prop) (Kr : St -> Prop) (Kp : AV -> St -> Prop) : Prop :=
 match fv with
 | .func (.func gV) first cap => dz C.P gV = true /\ ∀ (o : Nat) (L : eZ), U.cN o -> L.state = .ready -> L.eN = none ->
   (∀ (args : List AV) (bT : St) (R : cB -> St -> Prop) (L1 : eZ), args.length = np -> bT.loop o = some L1 -> L1.st .ready none = L -> pq.app np B args (aaL o R) bT -> jJ C o args bT R) ->
   af C gV (first ++ [.o9 o] ++ cap) (U.new o (.loop L)) (JJ o Kn Ke Kr Kp)
 | _ => False
def Fk (b : Bool) (A B : Prop) : Prop := match b with
 | true => A
 | false => B
def iU (n : Nat) (J : Fn n) (B : Fn n -> Prop) : Prop := ∀ j : Fn n, Fn.imp n J j -> B j
def cG (n : Nat) (init : List AV) (U : St) (B : Fn n -> Fn n) : Prop :=
 ∃ I : Nat -> Fn n, (∃ m, Fn.app n (I m) init U) /\ ∀ m, Fn.imp n (I m) (B (Fn.lam n fun vs U => ∃ m', m' < m /\ Fn.app n (I m') vs U))
inductive An where
 | z
 | sq (live : Option (List Nat)) (a b : An)
 | cd (a b : An)
 | bk (a : An)
 | lp (live : List Nat) (a : An)
 | rg (mu pf : List Nat) (cW : Option Pl)
 | rb (mu : List Nat) (cW : Pl)
 | rf (a b : An)
def lO (C : cr) : Code -> An -> Qx -> Env -> St -> Prop
 | .skip, _, Q, ρ, U => Q.n ρ U
 | .exit i, _, Q, ρ, U => Q.e i ρ U
 | .ret, _, Q, ρ, U => Q.r ρ U
 | .seq a b, .sq none x y, Q, ρ, U => lO C a x { Q with n := fun ρ U => lO C b y Q ρ U } ρ U
 | .seq a b, .sq (some live) x y, Q, ρ, U => iU live.length (Fn.lam live.length fun vs U => lO C b y Q (zZ live vs) U)
    fun j => lO C a x { Q with n := fun ρ U => Fn.app live.length j (live.map ρ.get) U } ρ U
 | .cond c a b, .cd x y, Q, ρ, U => al (ρ.ev C c) (lO C a x Q ρ U) (lO C b y Q ρ U)
 | .block i a, .bk x, Q, ρ, U => lO C a x { Q with e := fun k ρ U => Fk (Nat.beq k i) (Q.n ρ U) (Q.e k ρ U) } ρ U
 | .loop a, .lp live x, Q, ρ, U => cG live.length (live.map ρ.get) U fun lp => Fn.lam live.length fun vs U =>
    lO C a x { Q with n := fun ρ U => Fn.app live.length lp (live.map ρ.get) U } (zZ live vs) U
 | .region _ ops false, .rg mu pf none, Q, ρ, U => rV C mu pf ops ops.toList ρ U Q.n Q.p
 | .region _ ops true, .rg mu pf (some cW), Q, ρ, U => B1 C mu ops U Q.n Q.p cW.steps [] ρ U
 | .region _ ops true, .rb mu cW, Q, ρ, U => ∃ B : List Nat, rp C mu ops U Q.n Q.p B cW.steps ρ U
 | .rangeFunc f ps a b, .rf x y, Q, ρ, U => qG C ps.size (ρ.ev C f) U (pq.lam ps.size fun args qr U => lO C a x
    { n := fun ρ U => qr.Du (fun U => lO C b y { n := fun _ U => qr.n U, e := fun i _ U => qr.e i U, r := fun _ U => qr.r U, p := fun _ _ => False } ρ U) U, e := fun _ _ _ => False, r := fun _ _ => False, p := fun _ _ => False }
    ⟨tT ρ.get ps.toList args⟩ U) (fun U => Q.n ρ U) (fun i U => Q.e i ρ U) (fun U => Q.r ρ U) (fun x U => Q.p x U)
 | _, _, _, _, _ => False
def jW (nt : Nat) : Bool -> Code -> An -> Bool
 | _, .skip, _ => true
 | _, .exit _, _ => true
 | _, .ret, _ => true
 | top, .seq a b, .sq _ x y => jW nt top a x && jW nt top b y
 | top, .cond _ a b, .cd x y => jW nt top a x && jW nt top b y
 | top, .block _ a, .bk x => jW nt top a x
 | top, .loop a, .lp _ x => jW nt top a x
 | _, .region _ ops false, .rg _ _ none => km nt ops
 | _, .region _ ops true, .rg _ _ (some cW) => km nt ops && Hm ops cW
 | _, .region _ ops true, .rb _ cW => km nt ops && Hm ops cW
 | top, .rangeFunc _ ps a b, .rf x y => top && ps.toList.all (fun t => Nat.blt t nt) && jW nt false a x && jW nt false b y
 | _, _, _ => false
theorem wb {C : cr} {nt : Nat} (hm : C.P.follows .mixedOrders = true) : ∀ (c : Code) (an : An) (top : Bool) (ro : Ro) (Q : Qx) (ρ : Env) (U : St), jW nt top c an = true -> (top = true -> ro = .fn) ->
 lO C c an Q ρ U -> bp C nt ro c Q.q ρ U := by
 intro c
 induction c with
 | skip => intro an top ro Q ρ U cA ht h; exact bp.skip h
 | exit i => intro an top ro Q ρ U cA ht h; exact bp.exit h
 | ret => intro an top ro Q ρ U cA ht h; exact bp.ret h
 | seq a b vq FD =>
   intro an top ro Q ρ U cA ht h
   cases an <;> simp only [jW, bm, bP] at cA
   rename_i live x y
   refine bp.seq ?_
   cases live with
   | none =>
     simp only [lO] at h
     refine (vq x top ro _ ρ U cA.1 ht h).mono fun e ρ U he => ?_
     cases e <;> first | exact FD y top ro Q ρ U cA.2 ht he | exact he
   | some live =>
     simp only [lO] at h
     have := h (Fn.lam live.length fun vs U => bp C nt ro b Q.q (zZ live vs) U) (Fn.Fb fun xs U hl hx => by
      rw [Fn.nu _ _ _ _ hl] at hx ⊢
      exact FD y top ro Q _ _ cA.2 ht hx)
     refine (vq x top ro _ ρ U cA.1 ht this).mono fun e ρ U he => ?_
     cases e with
     | normal =>
       have jC : Fn.app live.length (Fn.lam live.length fun vs U => bp C nt ro b Q.q (zZ live vs) U) (live.map ρ.get) U := he
       rw [Fn.nu _ _ _ _ (by simp)] at jC
       exact bp.Ga jC (AP ρ live)
     | exit i => exact he
     | ret => exact he
     | panic x => exact he
 | cond c a b vq FD =>
   intro an top ro Q ρ U cA ht h
   cases an <;> simp only [jW, bm, bP] at cA
   rename_i x y
   simp only [lO] at h
   cases hc : ρ.ev C c <;> rw [hc] at h <;> simp only [al] at h
   exact bp.cond hc (fun e => vq x top ro Q ρ U cA.1 ht (h.1 e)) (fun e => FD y top ro Q ρ U cA.2 ht (h.2 e))
 | block i a vq =>
   intro an top ro Q ρ U cA ht h
   cases an <;> simp only [jW, bm] at cA
   rename_i x
   simp only [lO] at h
   refine bp.block ((vq x top ro _ ρ U cA ht h).mono fun e ρ U he => ?_)
   cases e with
   | exit k =>
     have jC : Fk (Nat.beq k i) (Q.n ρ U) (Q.e k ρ U) := he
     simp only [uT]
     cases hb : Nat.beq k i with
     | true => rw [hb] at jC; rw [if_pos (eo hb)]; exact jC
     | false => rw [hb] at jC; rw [if_neg (fun e => by subst e; simp at hb)]; exact jC
   | normal => exact he
   | ret => exact he
   | panic x => exact he
 | loop a vq =>
   intro an top ro Q ρ U cA ht h
   cases an <;> simp only [jW, bm] at cA
   rename_i live x
   simp only [lO] at h
   obtain ⟨I, ⟨m, h0⟩, hr⟩ := h
   refine bp.loop (fun m ρ U => Fn.app live.length (I m) (live.map ρ.get) U) (n := m) h0 fun m ρ U hI => ?_
   have := Fn.FF (hr m) _ _ (by simp) hI
   rw [Fn.nu _ _ _ _ (by simp)] at this
   refine bp.Ga ((vq x top ro _ _ _ cA ht this).mono fun e dv ae he => ?_) (AP ρ live)
   cases e with
   | normal =>
     have jC : Fn.app live.length (Fn.lam live.length fun vs U => ∃ m', m' < m /\ Fn.app live.length (I m') vs U) (live.map dv.get) ae := he
     rw [Fn.nu _ _ _ _ (by simp)] at jC
     exact jC
   | exit i => exact he
   | ret => exact he
   | panic x => exact he
 | region id ops draw =>
   intro an top ro Q ρ U cA ht h
   have kp : uM Q.q = fun x U => ∀ ρ : Env, Q.p x U := rfl
   cases draw with
   | false =>
     cases an with
     | rg mu pf cW =>
       cases cW with
       | none =>
         simp only [jW] at cA
         simp only [lO] at h
         refine bp.region mu cA ?_
         have h2 := sP _ ρ U h
         exact rm (fun _ _ h => h) (fun v U hv ρ => hv) _ h2
       | some cW => simp [jW] at cA
     | _ => simp [jW] at cA
   | true =>
     cases an with
     | rg mu pf cW =>
       cases cW with
       | none => simp [jW] at cA
       | some cW =>
         simp only [jW, bP] at cA
         simp only [lO] at h
         obtain ⟨B, _, hA⟩ := Ao _ _ _ _ h
         refine bp.ua mu B cW.steps hm cA.1 (FZ cA.2) ?_
         exact ia (fun _ _ h => h) (fun v U hv ρ => hv) _ hA
     | rb mu cW =>
       simp only [jW, bP] at cA
       simp only [lO] at h
       obtain ⟨B, hB⟩ := h
       refine bp.ua mu B cW.steps hm cA.1 (FZ cA.2) ?_
       exact ia (fun _ _ h => h) (fun v U hv ρ => hv) _ (pV B _ _ _ hB)
     | _ => simp [jW] at cA
 | rangeFunc f ps a b vq FD =>
   intro an top ro Q ρ U cA ht h
   cases an <;> simp only [jW, bm, bP] at cA
   rename_i x y
   obtain ⟨⟨⟨h1, h2⟩, h3⟩, h4⟩ := cA
   have C6 := ht h1
   subst C6
   simp only [lO, qG] at h
   split at h
   · rename_i gV first cap hf
     obtain ⟨qg, h⟩ := h
     refine bp.rangeFunc 0 hf qg fun o ho => ?_
     refine (h o ⟨ρ.get, nt, ps, a, b, .ready, none, 0⟩ ho rfl rfl ?_).mono fun r ae hr => ?_
     · intro args bT R L1 hl o4 eY hB
       obtain ⟨r1, r2, r3, r4, r5, r6, r7, r8⟩ := L1
       simp only [eZ.st, eZ.mk.injEq, true_and] at eY
       obtain ⟨e1, e2, e3, e4, e5, e6⟩ := eY
       subst e1 e2 e3 e4 e5 e6
       rw [pq.nu _ _ _ _ _ hl] at hB
       refine jJ.DA o4 (by simpa using hl) (fun t ht => by
        have := dP.1 h2 t ht
        exact Nat.le_of_ble_eq_true this) ?_
       refine (vq x false (.round o) _ _ _ h3 (fun h => by cases h) hB).mono fun e dv ae he => ?_
       cases e with
       | normal =>
         obtain ⟨L, k1, k2, k3⟩ := he
         refine ⟨L, k1, k2, (FD y false (.round o) _ _ _ h4 (fun h => by cases h) k3).mono fun e pa bR he => ?_⟩
         cases e with
         | normal => exact he
         | exit i => exact he
         | ret => exact he
         | panic x => exact he
       | exit i => exact he
       | ret => exact he
       | panic x => exact he
     · cases r with
       | ret v =>
         obtain ⟨L, k1, k2, k3⟩ := hr
         refine ⟨L, k1, k2, ?_⟩
         split at k3
         · rename_i hp; rw [hp]; exact k3
         · rename_i hp; rw [hp]; exact k3
         · rename_i hp; rw [hp]; exact k3
         · exact k3.elim
       | panic v => exact hr
   · exact h.elim
 | scope a vq => intro an top ro Q ρ U cA; cases an <;> simp [jW] at cA
 | label l => intro an top ro Q ρ U cA; cases an <;> simp [jW] at cA
 | goto l => intro an top ro Q ρ U cA; cases an <;> simp [jW] at cA
 | refuse w => intro an top ro Q ρ U cA; cases an <;> simp [jW] at cA
def bF (vt : Option (Bool × Nat)) (p : AV) (U : St) (k : AV -> Prop) : Prop := match ao vt p U with
 | .val v => k v
 | @av.cond q _ (.val v) => q /\ k v
 | _ => False
def Aq (P : Program) (ρ : Env) (U : St) : List ResultVar -> (List AV -> Prop) -> Prop
 | [], k => k []
 | .tmp t :: rs, k => Aq P ρ U rs fun vs => k (ρ.get t :: vs)
 | .cell t ty :: rs, k => bF (kY P ty) (ρ.get t) U fun v => Aq P ρ U rs fun vs => k (v :: vs)
theorem sR {P : Program} {ρ : Env} {U : St} : ∀ (l : List ResultVar) (k : List AV -> Prop), Aq P ρ U l k -> rY P ρ U l k
 | [], _, h => h
 | .tmp t :: rs, k, h => sR rs _ h
 | .cell t ty :: rs, k, h => by
   simp only [Aq, bF] at h
   simp only [rY, wv]
   rw [show rh P ty (ρ.get t) U = ao (kY P ty) (ρ.get t) U from rfl]
   split at h
   · rename_i hl; rw [hl]; exact sR rs _ h
   · rename_i hl; rw [hl]; exact ⟨h.1, sR rs _ h.2⟩
   · exact h.elim
def aj (R : cB -> St -> Prop) (x : AV) (U : St) : Prop := ∃ x' ae, ln x U x' ae /\ R (.ret x') ae
def aa (R : cB -> St -> Prop) (x : AV) (U : St) : Prop := R (.panic x) U
def aaT (P : Program) (fn : Func) (R : cB -> St -> Prop) : Qx where
 n := fun ρ U => Aq P ρ U fn.results.toList fun vs => aj R (sa vs) U
 e := fun _ _ _ => False
 r := fun ρ U => Aq P ρ U fn.results.toList fun vs => aj R (sa vs) U
 p := aa R
def Gm (C : cr) (fn : Func) (an : An) (args : List AV) (R : cB -> St -> Prop) (U : St) : Prop := match fn.body with
 | some c => lO C c an (aaT C.P fn R) (Env.gG args) U
 | none => False
def okF (fn : Func) (an : An) (n : Nat) : Bool := match fn.body with
 | some c => jW fn.ntmps true c an && Nat.ble n fn.ntmps
 | none => false
theorem af.RP {C : cr} (hm : C.P.follows .mixedOrders = true) {f : FuncId} {fn : Func} (an : An) {args : List AV} {R : cB -> St -> Prop} {U : St} (hf : C.P.funcs[f]? = some fn) (cA : okF fn an args.length = true)
 (h : Gm C fn an args R U) : af C f args U R := by
 unfold okF at cA
 unfold Gm at h
 split at cA
 · rename_i c hb
   rw [hb] at h
   simp only [bP] at cA
   refine af.FT hf hb (Nat.le_of_ble_eq_true cA.2) ?_
   refine (wb hm c an true .fn _ _ _ cA.1 (fun _ => rfl) h).mono fun e ρ U he => ?_
   cases e with
   | normal => exact sR _ _ he
   | ret => exact sR _ _ he
   | panic x => exact he
   | exit i => exact he
 · cases cA
theorem aj.mk {R : cB -> St -> Prop} {x : AV} {U : St} (h : R (.ret x) U) : aj R x U := ⟨x, U, ln.refl _ _, h⟩
end Go.Rip
namespace Go.Rip
open Go.RowKit
section
variable {C : cr} {U : St} {K : AV -> St -> Prop} {Kp : AV -> St -> Prop}
@[simp] theorem ai (v : AV) : (av.val v).wp C U K Kp = K v U := rfl
@[simp] theorem jq (v : AV) (b : Nat) (x : Live) : (av.jD v b x).wp C U K Kp = K v (U.set b x) := rfl
@[simp] theorem lP (k : NV) (x : Live) : (av.new k none x).wp C U K Kp = ∀ b, U.cN b -> K (k.at b) (U.new b x) := rfl
@[simp] theorem abn (k : NV) (d : Nat) (x : Live) : (av.new k (some d) x).wp C U K Kp = ∀ b, (U.del d).cN b -> K (k.at b) ((U.del d).new b x) := rfl
@[simp] theorem iM (f : FuncId) (args : List AV) : (av.enter f args).wp C U K Kp = af C f args U (ar K Kp) := rfl
@[simp] theorem ym (f : Nat) (args : List AV) : (av.yield f args).wp C U K Kp = jJ C f args U (ar K Kp) := rfl
@[simp] theorem Ps (v : AV) : (av.panic v).wp C U K Kp = Kp v U := rfl
@[simp] theorem wp_cond (p : Prop) [Decidable p] (r : av) : (av.cond p r).wp C U K Kp = (p /\ r.wp C U K Kp) := rfl
@[simp] theorem abp : av.bad.wp C U K Kp = False := rfl
@[simp] theorem abq (p : Prop) [Decidable p] (r s : av) : (if p then r else s).wp C U K Kp = if p then r.wp C U K Kp else s.wp C U K Kp := by split <;> rfl
@[simp] theorem bu (x : AV) : ar K Kp (.ret x) U = K x U := rfl
@[simp] theorem WS (x : AV) : ar K Kp (.panic x) U = Kp x U := rfl
end
@[simp] theorem WT (b : Bool) (A B : Prop) : al (.bool b) A B = ((b = true -> A) /\ (b = false -> B)) := rfl
theorem bf (A B : Prop) : al (.bool true) A B = A := by simp [al]
theorem aU (A B : Prop) : al (.bool false) A B = B := by simp [al]
theorem aW (p : Prop) [Decidable p] (A B : Prop) : al (.bool (decide p)) A B = ((p -> A) /\ (¬ p -> B)) := by simp [al]
@[simp] theorem aI (b w : Bool) : aq (.bool b) w = .bool (b == w) := rfl
@[simp] theorem abi (w : Bool) : aq (.aO []) w = .bool false := rfl
@[simp] theorem fQ (v : AV) : Au true v = v := rfl
@[simp] theorem zq (v : AV) : Au false v = .aO [] := rfl
@[simp] theorem aB (C : cr) (b : Bool) (r : av) (k : AV -> Prop) : ad C (.bool b) r k = dM C b r k := rfl
@[simp] theorem jk (C : cr) (b : Bool) (v : AV) (k : AV -> Prop) : dM C b (.val v) k = k (Au b v) := rfl
@[simp] theorem WV (C : cr) (b : Bool) (p : Prop) [Decidable p] (r : av) (k : AV -> Prop) : dM C b (.cond p r) k = ((b = true -> p) /\ dM C b r k) := rfl
@[simp] theorem VK (C : cr) (b : Bool) (f : FuncId) (args : List AV) (k : AV -> Prop) : dM C b (.enter f args) k = ∃ v, (b = true -> Pure C f args v) /\ k (Au b v) := rfl
@[simp] theorem a8 (C : cr) (k : AV -> Prop) : ∀ r : av, (dM C false r k) = k (.aO [])
 | .val v => rfl
 | @av.cond _ _ r => by simp only [dM]; rw [a8 C k r]; simp
 | .enter _ _ => by simp [dM]
 | .jD _ _ _ => by simp [dM]
 | .new _ _ _ => by simp [dM]
 | .ji _ _ => by simp [dM]
 | .yield _ _ => by simp [dM]
 | .panic _ => by simp [dM]
 | .bad => by simp [dM]
@[simp] theorem au (C : cr) (v : AV) (k : AV -> Prop) : az C (.val v) k = k v := rfl
@[simp] theorem gD (C : cr) (p : Prop) [Decidable p] (r : av) (k : AV -> Prop) : az C (.cond p r) k = (p /\ az C r k) := rfl
@[simp] theorem DH (C : cr) (f : FuncId) (args : List AV) (k : AV -> Prop) : az C (.enter f args) k = ∃ v, Pure C f args v /\ k v := rfl
theorem ru (C : cr) (k : AV -> Prop) : ∀ r : av, dM C true r k = az C r k
 | .val v => rfl
 | @av.cond _ _ r => by simp only [dM, az, ru C k r]; simp
 | .enter _ _ => by simp [dM, az]
 | .jD _ _ _ => by simp [dM, az]
 | .new _ _ _ => by simp [dM, az]
 | .ji _ _ => by simp [dM, az]
 | .yield _ _ => by simp [dM, az]
 | .panic _ => by simp [dM, az]
 | .bad => by simp [dM, az]
@[simp] theorem bl (C : cr) (k : AV -> Prop) (r : av) : dM C true r k = az C r k := ru C k r
theorem n6 (C : cr) (k : AV -> Prop) (r : av) (p : Prop) [Decidable p] : dM C (decide p) r k = ((p -> az C r k) /\ (¬ p -> k (.aO []))) := by
 by_cases h : p <;> simp [h]
theorem mK (C : cr) (k : AV -> Prop) (r : av) (p : Prop) [Decidable p] : dM C (!decide p) r k = ((p -> k (.aO [])) /\ (¬ p -> az C r k)) := by
 by_cases h : p <;> simp [h]
@[simp] theorem ay (b : Bool) (x y : AV) : aP (.bool b) x y = .val (if b = true then x else y) := rfl
@[simp] theorem ite_bool (b x y : Bool) : (if b = true then AV.bool x else AV.bool y) = .bool (if b = true then x else y) := by split <;> rfl
section
variable (bt : BT) (l : Bool) (k : IntKind) (a b : Int) (s t : List UInt8)
@[simp] theorem aR : ak .eql bt l (.int k a) (.int k b) = .val (.bool (decide (a = b))) := by simp only [ak, if_true]; rfl
@[simp] theorem bS : ak .neq bt l (.int k a) (.int k b) = .val (.bool (!decide (a = b))) := by simp only [ak, if_true]; rfl
@[simp] theorem bj : ak .lss bt l (.int k a) (.int k b) = .val (.bool (decide (a < b))) := by simp only [ak, if_true]
@[simp] theorem eK : ak .leq bt l (.int k a) (.int k b) = .val (.bool (decide (a <= b))) := by simp only [ak, if_true]
@[simp] theorem dY : ak .gtr bt l (.int k a) (.int k b) = .val (.bool (decide (b < a))) := by simp only [ak, if_true, gt_iff_lt]
@[simp] theorem dG : ak .geq bt l (.int k a) (.int k b) = .val (.bool (decide (b <= a))) := by simp only [ak, if_true, ge_iff_le]
@[simp] theorem js : ak .add bt l (.int k a) (.int k b) = gb k (a + b) := by simp only [ak, if_true]
@[simp] theorem dH : ak .sub bt l (.int k a) (.int k b) = gb k (a - b) := by simp only [ak, if_true]
@[simp] theorem El : ak .mul bt l (.int k a) (.int k b) = gb k (a * b) := by simp only [ak, if_true]
@[simp] theorem WQ : ak .quo bt l (.int k a) (.int k b) = .cond (b ≠ 0) (gb k (a.tdiv b)) := by simp only [ak, if_true]
@[simp] theorem WR : ak .rem bt l (.int k a) (.int k b) = .cond (b ≠ 0) (.val (.int k (a.tmod b))) := by simp only [ak, if_true]
@[simp] theorem ic : ak .eql bt l (.str s) (.str t) = .val (.bool (decide (s = t))) := by
 show av.val (.bool (s == t)) = _
 rw [show (s == t) = decide (s = t) from lE.2 (by simp)]
@[simp] theorem jt : ak .neq bt l (.str s) (.str t) = .val (.bool (!decide (s = t))) := by
 show av.val (.bool (s != t)) = _
 rw [show (s != t) = !decide (s = t) from lE.2 (by simp)]
@[simp] theorem WM : ak .add bt l (.str s) (.str t) = .cond (s.length + t.length <= 4294967296) (.val (.str (s ++ t))) := rfl
@[simp] theorem T0 (x y : Bool) (i p : Bool) (f : Option (List FK)) (sl : Bool) : ak .eql ⟨true, i, p, f, sl⟩ l (.bool x) (.bool y) = .val (.bool (x == y)) := by simp only [ak, if_true]
@[simp] theorem uR (x y : Bool) (i p : Bool) (f : Option (List FK)) (sl : Bool) : ak .neq ⟨true, i, p, f, sl⟩ l (.bool x) (.bool y) = .val (.bool (x != y)) := by simp only [ak, if_true]
@[simp] theorem WN (x y : List AV) (i p q : Bool) (f : List FK) (sl : Bool) : ak .eql ⟨q, i, p, some f, sl⟩ l (.agg x) (.agg y) = sh .bool (l9 f x y) := rfl
@[simp] theorem WO (x y : List AV) (i p q : Bool) (f : List FK) (sl : Bool) : ak .neq ⟨q, i, p, some f, sl⟩ l (.agg x) (.agg y) = sh (fun r => .bool (!r)) (l9 f x y) := rfl
@[simp] theorem ZS (f : Bool -> AV) (r : Bool) : sh f (some r) = .val (f r) := rfl
@[simp] theorem cJ (x : Bool) : fi .not (.bool x) = .val (.bool (!x)) := rfl
@[simp] theorem dp : gb .i64 a = .cond (uu a) (.val (.int .i64 a)) := rfl
@[simp] theorem Cn : gb .u8 a = .val (.int .u8 (IntKind.u8.wrap a)) := rfl
end
theorem aX {n : Int} (h1 : -9223372036854775808 <= n) (h2 : n <= 9223372036854775807) : uu n := ⟨h1, h2⟩
section
variable (sz b o : Nat) (p v : AV) (U : St) (L l : List AV)
theorem qs {U : St} {b : Nat} {L : List AV} (h : U.box b = some L) (n o : Nat) : ao (some (false, n)) (.box b o) U = fT (L.drop o) := by simp [ao, jK, h]
theorem Jm {U : St} {b : Nat} {L : List AV} (h : U.box b = some L) (n o : Nat) : ao (some (true, n)) (.box b o) U = .cond (n <= (L.drop o).length) (.val (.agg ((L.drop o).take n))) := by simp [ao, jK, h]
@[simp] theorem ri : ao (some (false, sz)) (.cj L) U = fT L := rfl
@[simp] theorem Hc : ao (some (true, sz)) (.cj L) U = .cond (sz <= L.length) (.val (.agg (L.take sz))) := rfl
@[simp] theorem dm (x : AV) : fT (x :: L) = .val x := rfl
theorem jX {U : St} {b : Nat} {L : List AV} (h : U.box b = some L) (t : Bool) (n o : Nat) (v : AV) : aQ (some (t, n)) (.box b o) v U = .cond (v.cS = true /\ (aA v).length = n /\ o + n <= L.length) (.jD (.aO []) b (.box (aH L o (aA v)))) := by simp [aQ, h]
@[simp] theorem di : bz (.box b o) = .val (.box b o) := rfl
@[simp] theorem BM : bz (.cj L) = .val (.cj L) := rfl
@[simp] theorem Sq (f : Nat) (x y : List AV) : bz (.func (.func f) x y) = .val (.func (.func f) x y) := rfl
@[simp] theorem aV (k : Nat) : ah (some k) (.box b o) = .val (.box b (o + k)) := rfl
@[simp] theorem cQ (k : Nat) : ah (some k) (.cj L) = .val (.cj (L.drop k)) := rfl
@[simp] theorem Gw (k n : Nat) : qQ (some (k, false, n)) (.agg L) = fT (L.drop k) := rfl
@[simp] theorem XM (k n : Nat) : qQ (some (k, true, n)) (.agg L) = .cond (k + n <= L.length) (.val (.agg ((L.drop k).take n))) := rfl
@[simp] theorem uF (e n : Nat) (c : iW) (k : IntKind) (j : Int) (at_ : Option (Nat × TypeId × Nat)) : aF (some (e, sz)) at_ (.vec n c L) (.int k j) = .cond (0 <= j /\ j < n) (.val (.cj (L.drop (j.toNat * sz)))) := rfl
@[simp] theorem Vm (e n z t : Nat) (k : IntKind) (j : Int) (at_ : Option (Nat × TypeId × Nat)) : aF (some (e, sz)) at_ (.ms b o n z t) (.int k j) = .cond (0 <= j /\ j < n /\ z = sz) (.val (.box b (o + j.toNat * sz))) := rfl
@[simp] theorem Be (s : List UInt8) (k : IntKind) (j : Int) (at_ : Option (Nat × TypeId × Nat)) (vt : Option (Bool × Nat)) : ey true at_ vt (.str s) (.int k j) = .cond (0 <= j /\ j < s.length) (.val (.int .u8 (s.getD j.toNat 0).toNat)) := by simp [ey]
@[simp] theorem gO (s : List UInt8) : bw (some true) (.str s) = .val (.int .i64 s.length) := rfl
@[simp] theorem oA (n : Nat) (c : iW) : bw (some false) (.vec n c L) = .val (.int .i64 n) := rfl
@[simp] theorem Ji (n z e : Nat) : bw (some false) (.ms b o n z e) = .val (.int .i64 n) := rfl
@[simp] theorem len_nil : bw (some false) .ax = .val (.int .i64 0) := rfl
@[simp] theorem bK (k : Nat) : aT (.aO L) k = fT (L.drop k) := rfl
@[simp] theorem HU : aA (.agg L) = L := rfl
@[simp] theorem AL (k : IntKind) (n : Int) : aA (.int k n) = [.int k n] := rfl
@[simp] theorem AM (s : List UInt8) : aA (.str s) = [.str s] := rfl
@[simp] theorem XG (x : Bool) : aA (.bool x) = [.bool x] := rfl
@[simp] theorem YE : aA (.box b o) = [.box b o] := rfl
@[simp] theorem YF (n : Nat) (c : iW) : aA (.vec n c L) = [.vec n c L] := rfl
@[simp] theorem Z2 (n z e : Nat) : aA (.ms b o n z e) = [.ms b o n z e] := rfl
@[simp] theorem Rm : aA .ax = [.ax] := rfl
@[simp] theorem T9 : aA .a7 = [.a7] := rfl
@[simp] theorem XI (f : Go.Fn) (x y : List AV) : aA (.func f x y) = [.func f x y] := rfl
@[simp] theorem XH (x y : List AV) : aA (.eL x y) = [.eL x y] := rfl
@[simp] theorem Z1 (m : Nat) : aA (.mp m) = [.mp m] := rfl
@[simp] theorem NQ : (AV.agg L).cS = true := rfl
@[simp] theorem NR (k : IntKind) (n : Int) : (AV.int k n).cS = true := rfl
@[simp] theorem NS (s : List UInt8) : (AV.str s).cS = true := rfl
@[simp] theorem ZG (x : Bool) : (AV.bool x).cS = true := rfl
@[simp] theorem aaH : (AV.box b o).cS = true := rfl
@[simp] theorem aaI (n : Nat) (c : iW) : (AV.vec n c L).cS = true := rfl
@[simp] theorem abk (n z e : Nat) : (AV.ms b o n z e).cS = true := rfl
@[simp] theorem So : AV.ax.cS = true := rfl
@[simp] theorem WU : AV.a7.cS = true := rfl
@[simp] theorem ZI (f : Go.Fn) (x y : List AV) : (AV.func f x y).cS = true := rfl
@[simp] theorem ZH (x y : List AV) : (AV.eL x y).cS = true := rfl
@[simp] theorem abj (m : Nat) : (AV.mp m).cS = true := rfl
@[simp] theorem AK (h : v.cS = true) : dZ v = .cond True (.c7 (aA v)) := by simp [dZ, h]
@[simp] theorem lG (s : List UInt8) (sl : Option (TypeId × Nat)) (lo hi : Option AV) : dU true sl (.str s) lo hi = (match cV 0 lo, cV s.length hi with
 | some l, some h => .cond (0 <= l /\ l <= h /\ h <= s.length) (.val (.str ((s.take h.toNat).drop l.toNat)))
 | _, _ => .bad) := by
 simp only [dU]
 cases cV 0 lo <;> cases cV (s.length : Int) hi <;> rfl
@[simp] theorem gA (d : Int) : cV d none = some d := rfl
@[simp] theorem fo (d : Int) (k : IntKind) (n : Int) : cV d (some (.int k n)) = some n := rfl
@[simp] theorem rz (e n : Nat) (c : iW) (lo hi : Option AV) (st : Bool) : dU st (some (e, sz)) (.vec n c L) lo hi = (match cV 0 lo, cV n hi with
 | some a, some b => .cond (0 <= a /\ a <= b /\ b <= n) (.val (.vec (b.toNat - a.toNat) (oN c hi) ((L.take (b.toNat * sz)).drop (a.toNat * sz))))
 | _, _ => .bad) := by
 simp only [dU]
 cases cV 0 lo <;> cases cV (n : Int) hi <;> rfl
@[simp] theorem abl (k : IntKind) (a b : Int) : xV (.int k a) (.int k b) = .val (.int k (if b > a then b else a)) := by simp [xV]
@[simp] theorem FH (k : IntKind) (a b : Int) : rT (.int k a) (.int k b) = .val (.int k (if b < a then b else a)) := by simp [rT]
end
theorem aj.eq {R : cB -> St -> Prop} {x y : AV} {U : St} (h : R (.ret y) U) (e : x = y) : aj R x U := by subst e; exact aj.mk h
theorem Pure.go {C : cr} {f : FuncId} {args : List AV} {x : AV} {K : AV -> St -> Prop} {Kp : AV -> St -> Prop} {U : St} (h : Pure C f args x) (hk : K x U) : af C f args U (ar K Kp) := h U _ hk
end Go.Rip
