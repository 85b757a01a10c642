/- Lemmas for the proof: no conditions. -/
import Derived.Test.YtnfpmiiopiinbaaGreatDoorRipZz
import Derived.Test.YtnfpmiiopiinbaaGreatDoorRipB
set_option linter.unusedVariables false
set_option linter.unusedSimpArgs false
set_option linter.loopingSimpArgs false
namespace Go.Rip
open Go.RowKit
mutual
def flat : AV -> Bool
 | .bool _ | .int _ _ | .str _ | .a8 | .al | .ke | .dh | .cW => true
 | .iface _ v => flat v
 | .agg l => zj l
 | .aR l => zj l
 | _ => false
def zj : List AV -> Bool
 | [] => true
 | x :: xs => flat x && zj xs
end
mutual
theorem az.flat {g g' : Gh} : ∀ (x : AV) (v : Value), flat x = true -> az g x v -> az g' x v
 | .bool _, _, _, hr => hr
 | .int _ _, _, _, hr => hr
 | .str _, _, _, hr => hr
 | .a8, _, _, hr => hr
 | .al, _, _, hr => hr
 | .ke, _, _, hr => hr
 | .dh, _, _, hr => hr
 | .cW, _, _, hr => hr
 | .iface t x, v, h, hr => by
   simp only [Rip.flat] at h
   simp only [az] at hr ⊢
   obtain ⟨u, h1, h2⟩ := hr
   exact ⟨u, h1, az.flat x u h h2⟩
 | .agg l, v, h, hr => by
   simp only [Rip.flat] at h
   simp only [az] at hr ⊢
   obtain ⟨vs, h1, h2, h3⟩ := hr
   exact ⟨vs, h1, h2, aE.flat l _ h h3⟩
 | .aR l, v, h, hr => by
   simp only [Rip.flat] at h
   simp only [az] at hr ⊢
   obtain ⟨vs, h1, h3⟩ := hr
   exact ⟨vs, h1, aE.flat l _ h h3⟩
theorem aE.flat {g g' : Gh} : ∀ (l : List AV) (vs : List Value), zj l = true -> aE g l vs -> aE g' l vs
 | [], vs, _, h => by cases vs <;> simp_all [aE]
 | x :: xs, vs, h, hr => by
   simp only [zj, bR] at h
   simp only [aE] at hr ⊢
   obtain ⟨v, vs', h1, h2, h3⟩ := hr
   exact ⟨v, vs', h1, az.flat x v h.1 h2, aE.flat xs vs' h.2 h3⟩
end
theorem af.GQ {C : cw} {f : Nat} {args args0 : List AV} {U : St} {R : cD -> St -> Prop} {x : AV} (d : Nat) (zu : ∀ i, closed (C.vS i) = true)
 (hw : ∀ g vs, aE g (args.map (resolve d U)) vs -> aE g args0 vs) (hargs : bV args0 = true) (hx : flat x = true) (h : Pure C f args0 x) (hR : R (.ret x) U) : af C f args U R := by
 intro g w vs hs hG ha
 have Qm := hs.zM
 let g0 : Gh := { base := w.heap.size, w0 := w, place := fun _ => none, bQ := (g.all w).bQ, bL := (g.all w).bL, res := fun _ => false }
 have rL : aZ g0 (bD ⟨.e, 0⟩) w := {
  below := Below.refl _ _
  le := cX _
  bQ := fun q o u hu => tV hs q o u hu
  bL := fun q es c hu => sn hs q es c hu
  live := fun b x hb => by cases hb
  apart := fun b b' x x' p p' hb => by cases hb
  res := fun r hr => by cases hr
  fin := ⟨0, fun n hn => by cases hn; rfl, fun _ _ => rfl⟩ }
 have Jf : fU C g0 := ⟨fun i => az.closed (g := g) (g' := g0) (fun _ _ _ h => Qm.bQ _ _ _ h) (fun _ _ h => Qm.bL _ _ h) _ _ (zu i) (hG.1 i), fun i cs hi => by
  obtain ⟨k1, t, fr, k2⟩ := hG.2 i cs hi
  refine ⟨Nat.lt_of_lt_of_le k1 hs.le, t, fr, ?_⟩
  show w.heap[i]? = _
  rw [hs.below.block i k1]; exact k2⟩
 have UQ : aE g0 args0 vs := aE.closed (g := g.all w) (g' := g0) (fun _ _ _ h => h) (fun _ _ h => h) _ _ hargs (hw _ _ (yK (fun x v _ hr => yd hs d x v hr) ha))
 refine (h (bD ⟨.e, 0⟩) (fun r _ => r = .ret x) rfl g0 w vs rL Jf UQ).mono ?_
 rintro e w' hp
 cases e with
 | panicked ch => obtain ⟨g', ae, y, v, _, _, _, _, hz⟩ := hp; cases hz
 | outgrown => exact hp.elim
 | returned v =>
   obtain ⟨g', ae, y, h1, h2, h3, hz⟩ := hp
   cases hz
   have qS := h2.zM
   have hle := h1.trans qS
   have uh : Below w.heap.size w w' := by
    have := h2.below
    rw [h1.base, h1.w0] at this
    exact this
   let gF : Gh := { base := g.base, w0 := g.w0, place := g.place, bQ := g.bQ, bL := g.bL, res := g.res }
   have Du : Gh.Le g gF := ⟨rfl, rfl, fun _ _ h => h, fun b o u hu => hu, fun b u hu => hu, fun _ h => h, fun _ _ _ => rfl, fun _ _ => rfl⟩
   refine ⟨gF, U, x, Du, ?_, az.flat x v hx h3, hR⟩
   exact {
    below := hs.below.trans (uh.mono hs.le)
    le := Nat.le_trans hs.le uh.size
    bQ := fun q o u hu => tV h2 q o u (hle.bQ _ _ _ (Qm.bQ _ _ _ hu))
    bL := fun q es c hu => sn h2 q es c (hle.bL _ _ (Qm.bL _ _ hu))
    live := fun b l hb => by
     obtain ⟨p, k1, k2, k3⟩ := hs.live b l hb
     have aJ := k3.lt
     exact ⟨p, k1, k2, k3.frame Du.r (uh.block _ aJ) (fun o => rfl) rfl⟩
    apart := hs.apart
    res := fun r hr => by
     obtain ⟨k1, k2⟩ := hs.res r hr
     exact ⟨k1, by rw [uh.block _ (jb.1 k2).1]; exact k2⟩
    fin := hs.fin }
inductive Wk : List AV -> List AV -> Prop
 | nil : Wk [] []
 | bj (x : AV) {l l' : List AV} : Wk l l' -> Wk (x :: l) (x :: l')
 | drop (x : AV) {l l' : List AV} : Wk l l' -> Wk (.any :: l) (x :: l')
theorem Wk.rep {g : Gh} {l l' : List AV} (h : Wk l l') : ∀ {vs : List Value}, aE g l' vs -> aE g l vs := by
 induction h with
 | nil => exact fun h => h
 | bj x _ ih =>
   intro vs h
   simp only [aE] at h ⊢
   obtain ⟨u, us, h1, h2, h3⟩ := h
   exact ⟨u, us, h1, h2, ih h3⟩
 | drop x _ ih =>
   intro vs h
   simp only [aE] at h ⊢
   obtain ⟨u, us, h1, h2, h3⟩ := h
   exact ⟨u, us, h1, by simp only [az], ih h3⟩
theorem Wk.ck {g : Gh} {l l' r : List AV} {vs : List Value} (h : Wk l l') (hr : aE g (.ck l' :: r) vs) : aE g (.ck l :: r) vs := by
 simp only [aE, az] at hr ⊢
 obtain ⟨u, us, h1, ⟨aH, off, ws, h2, h3, h4⟩, h5⟩ := hr
 exact ⟨u, us, h1, ⟨aH, off, ws, h2, h3, h.rep h4⟩, h5⟩
theorem Wk.any : ∀ (l : List AV), Wk (l.map fun _ => .any) l
 | [] => .nil
 | x :: l => .drop x (Wk.any l)
end Go.Rip
namespace Go.Rip
open Go.RowKit
def ao (vt : Option (Bool × Nat)) (p : AV) (U : St) : au :=
 match vt, jX U p with
 | some (true, sz), some l => .cond (sz <= l.length) (.val (.agg (l.take sz)))
 | some (false, _), some l => gg l
 | _, _ => .bad
def aL (vt : Option (Bool × Nat)) (p v : AV) (U : St) : au :=
 match vt, p with
 | some (_, sz), .box b off => match U.box b with
   | some l => .cond (v.cQ = true /\ (ay v).length = sz /\ off + sz <= l.length) (.jQ (.aR []) b (.box (aB l off (ay v))))
   | none => .bad
 | _, _ => .bad
def SZ (t : TypeId) (z : Option (List AV)) : au :=
 match z with
 | some l => CU t l
 | none => .bad
def dj (st : Option (List (Nat × Nat))) (z : Option (List AV)) (at_ : Option (Nat × TypeId × Nat)) (parts : List (Nat × AV)) : au :=
 match st, z with
 | some pl, some z => eW (fun i => pl[i]?) parts z fun z => .val (.agg z)
 | none, some z => match at_ with
   | some (_, _, sz) => eW (fun i => some (i * sz, sz)) parts z fun z => .val (.agg z)
   | none => .bad
 | _, _ => .bad
def aO (sl : Option (TypeId × Nat)) (z : Option (List AV)) (n : Nat) (mu : Bool) (parts : List (Nat × AV)) : au :=
 match sl with
 | some (e, sz) => match z with
   | some z => .cond (n * sz <= 16777216) (eW (fun i => some (i * sz, sz)) parts (bK n z) fun cs => .cond (cs.length = n * sz) (if mu then .mq n sz e none cs else .val (.vec n .full cs)))
   | none => .bad
 | none => .bad
def iw (mt : Option (FK × TypeId)) (m k v : AV) (U : St) : au :=
 match mt, m with
 | some (fk, _), .mp id => match U.mp id with
   | some (ks, vs) => match jS fk k ks 0, ox fk k with
     | some none, true => .jQ (.aR []) id (.mp (fB k v ks vs).1 (fB k v ks vs).2)
     | some (some i), true => .jQ (.aR []) id (.mp ks (vs.set i v))
     | _, _ => .bad
   | none => .bad
 | _, _ => .bad
def fI (mt : Option (FK × TypeId)) (z : Option AV) (m k : AV) (ok : Bool) (U : St) : au :=
 match mt, kD U m with
 | some (fk, e), some (ks, vs) => match z, ox fk k with
   | some z, true => kH fk k z ok ks vs
   | _, _ => .bad
 | _, _ => .bad
def ua (it : Option IntKind) (is : Bool) (ss bs : Bool) (x : AV) : au :=
 match it, is, x with
 | some .i64, true, .int _ n => .cond (u9 n) (.val (.int .i64 n))
 | some k, true, .int _ n => .val (.int k (k.wrap n))
 | none, true, .str s => if ss = true then .val (.str s) else
   if bs = true then .cond (s.length <= 4294967296) (.val (.vec s.length .hX (s.map fun b => .int .u8 b.toNat))) else .bad
 | _, _, _ => .bad
def dx (st : Bool) (sl : Option (TypeId × Nat)) (x : AV) (lo hi : Option AV) : au :=
 match x with
 | .str s => match st, dc 0 lo, dc s.length hi with
   | true, some l, some h => .cond (0 <= l /\ l <= h /\ h <= s.length) (.val (.str ((s.take h.toNat).drop l.toNat)))
   | _, _, _ => .bad
 | .vec n cap l => match sl, dc 0 lo, dc n hi with
   | some (_, sz), some a, some b => .cond (0 <= a /\ a <= b /\ b <= n) (.val (.vec (b.toNat - a.toNat) (pn cap hi) ((l.take (b.toNat * sz)).drop (a.toNat * sz))))
   | _, _, _ => .bad
 | .al => match sl, dc 0 lo, dc 0 hi with
   | some (_, _), some a, some b => .cond (a = 0 /\ b = 0) (.val .al)
   | _, _, _ => .bad
 | .ms b off n gN e => match sl, dc 0 lo, dc n hi with
   | some (_, sz), some a, some h => .cond (0 <= a /\ a <= h /\ h <= n /\ (a < n \/ a = 0) /\ gN = sz) (.val (.ms b (off + a.toNat * sz) (h.toNat - a.toNat) gN e))
   | _, _, _ => .bad
 | _ => .bad
def ag (ft : Option Nat) (p : AV) : au :=
 match ft, p with
 | some o, .box b off => .val (.box b (off + o))
 | some o, .ck l => .val (.ck (l.drop o))
 | _, _ => .bad
def rD (fv : Option (Nat × Bool × Nat)) (x : AV) : au :=
 match fv, x with
 | some (o, true, n), .agg l => .cond (o + n <= l.length) (.val (.agg ((l.drop o).take n)))
 | some (o, false, _), .agg l => gg (l.drop o)
 | _, _ => .bad
def Ut (at_ : Option (Nat × TypeId × Nat)) (x i : AV) : au :=
 match at_, x, i with
 | some (n, _, sz), .ck l, .int _ j => .cond (0 <= j /\ j < n) (.val (.ck (l.drop (j.toNat * sz))))
 | some (n, _, sz), .box b off, .int _ j => .cond (0 <= j /\ j < n) (.val (.box b (off + j.toNat * sz)))
 | _, _, _ => .bad
def aF (sl : Option (TypeId × Nat)) (at_ : Option (Nat × TypeId × Nat)) (x i : AV) : au :=
 match sl, x, i with
 | none, x, i => Ut at_ x i
 | some (_, sz), .vec n _ l, .int _ j => .cond (0 <= j /\ j < n) (.val (.ck (l.drop (j.toNat * sz))))
 | some (_, sz), .ms b off n gN _, .int _ j => .cond (0 <= j /\ j < n /\ gN = sz) (.val (.box b (off + j.toNat * sz)))
 | _, _, _ => .bad
def eE (st : Bool) (at_ : Option (Nat × TypeId × Nat)) (vt : Option (Bool × Nat)) (x i : AV) : au :=
 match x, i with
 | .str s, .int _ j => if st = true then .cond (0 <= j /\ j < s.length) (.val (.int .u8 (s.getD j.toNat 0).toNat)) else .bad
 | .agg l, .int _ j => match at_ with
   | some (n, e, sz) => match vt with
     | some (false, _) => .cond (0 <= j /\ j < n) (gg (l.drop (j.toNat * sz)))
     | some (true, k) => .cond (0 <= j /\ j < n /\ k = sz /\ j.toNat * sz + sz <= l.length) (.val (.agg ((l.drop (j.toNat * sz)).take sz)))
     | none => .bad
   | none => .bad
 | _, _ => .bad
def oA (b : Bool) (t : TypeId) (x : AV) : au := if b = true then .val (.iface t x) else .bad
def wF (mt : Option (FK × TypeId)) (m : AV) : au :=
 match mt, m with
 | some _, .eR ks vs => .new .it none (.iter (ks.zip vs) none)
 | _, _ => .bad
def sR (z : Option AV) (x : AV) (t : TypeId) (ok : Bool) : au :=
 match z, x with
 | some z, .iface u v => if u = t then .val (if ok then .aR [v, .bool true] else v) else if ok then .val (.aR [z, .bool false]) else .bad
 | some z, .cW => if ok then .val (.aR [z, .bool false]) else .bad
 | _, _ => .bad
def qi (sl : Option (TypeId × Nat)) (z : Option (List AV)) (mu : Bool) (l c : AV) : au :=
 match sl, l, c with
 | some (e, sz), .int _ l, .int _ c => match z with
   | some z => .cond (0 <= l /\ l = c /\ c <= 65536) (if mu then .mq l.toNat sz e none (bK l.toNat z) else .kY l.toNat (bK l.toNat z) none ⟨l.toNat, e, sz⟩)
   | none => .bad
 | _, _, _ => .bad
def zc (sl : Option (TypeId × Nat)) (z : Option (List AV)) (x : AV) (U : St) : au :=
 match sl, x with
 | some (e, sz), .ms b off n gN _ => match U.box b, z with
   | some l, some z => .cond (gN = sz /\ off + n * sz <= l.length) (.jQ (.aR []) b (.box (aB l off (bK n z))))
   | _, _ => .bad
 | _, _ => .bad
def bz (lt : Option Bool) (x : AV) : au :=
 match lt, x with
 | some true, .str s => .val (.int .i64 s.length)
 | some false, .vec n _ _ => .val (.int .i64 n)
 | some false, .ms _ _ n _ _ => .val (.int .i64 n)
 | some false, .al => .val (.int .i64 0)
 | _, _ => .bad
def dM (ap : Option (TypeId × Nat)) (mu : Bool) (s y : AV) (U : St) : au :=
 match ap, pc U y with
 | some (e, sz), some (m, l2) =>
   .cond (l2.length = m * sz) (match s with
   | .al => if m = 0 then .val .al else .cond (m <= 4294967296) (if mu then .mq m sz e none l2 else .kY m l2 none ⟨m, e, sz⟩)
   | .vec n .full l => if m = 0 then .val s else .cond (l.length = n * sz /\ n + m <= 4294967296) (.kY (n + m) (l ++ l2) none ⟨n + m, e, sz⟩)
   | .vec n (.own τ) l => .cond (U.tok τ = some ⟨n, e, sz⟩ /\ l.length = n * sz /\ n + m <= 4294967296) (.kY (n + m) (l ++ l2) (some τ) ⟨n + m, e, sz⟩)
   | .ms b off n gN e' => match U.box b with
     | some l => .cond (off = 0 /\ gN = sz /\ e' = e /\ n * sz <= l.length /\ n + m <= 4294967296) (.mq (n + m) sz e (some b) (l.take (n * sz) ++ l2))
     | none => .bad
   | _ => .bad)
 | _, _ => .bad
structure BT where
 b : Bool
 i : Bool
 p : Bool
 f : Option (List FK)
 s : Bool
def Ux (P : Program) (t : TypeId) : BT := ⟨tu P t, iX P t, j6 P t, Hk P t, nC P t⟩
def Qc (f : Option (List FK)) (a b : List AV) : Option Bool :=
 match f with
 | some ks => mC ks a b
 | none => none
def aj (op : BinOp) (bt : BT) (lit : Bool) (x y : AV) : au :=
 match op, x, y with
 | .eql, .cW, .cW => if bt.i = true /\ lit = true then .val (.bool true) else .bad
 | .neq, .cW, .cW => if bt.i = true /\ lit = true then .val (.bool false) else .bad
 | .add, .int k a, .int k' b => if k = k' then gn k (a + b) else .bad
 | .sub, .int k a, .int k' b => if k = k' then gn k (a - b) else .bad
 | .mul, .int k a, .int k' b => if k = k' then gn k (a * b) else .bad
 | .quo, .int k a, .int k' b => if k = k' then .cond (b ≠ 0) (gn k (a.tdiv b)) else .bad
 | .rem, .int k a, .int k' b => if k = k' then .cond (b ≠ 0) (.val (.int k (a.tmod b))) else .bad
 | .and, .int k a, .int k' b => if k = k' then .val (.int k (k.wrap (BitVec.ofInt k.bits a &&& BitVec.ofInt k.bits b).toNat)) else .bad
 | .or, .int k a, .int k' b => if k = k' then .val (.int k (k.wrap (BitVec.ofInt k.bits a ||| BitVec.ofInt k.bits b).toNat)) else .bad
 | .eql, .int k a, .int k' b => if k = k' then .val (.bool (a == b)) else .bad
 | .neq, .int k a, .int k' b => if k = k' then .val (.bool (a != b)) else .bad
 | .lss, .int k a, .int k' b => if k = k' then .val (.bool (decide (a < b))) else .bad
 | .leq, .int k a, .int k' b => if k = k' then .val (.bool (decide (a <= b))) else .bad
 | .gtr, .int k a, .int k' b => if k = k' then .val (.bool (decide (a > b))) else .bad
 | .geq, .int k a, .int k' b => if k = k' then .val (.bool (decide (a >= b))) else .bad
 | .eql, .str a, .str b => .val (.bool (a == b))
 | .neq, .str a, .str b => .val (.bool (a != b))
 | .add, .str a, .str b => .cond (a.length + b.length <= 4294967296) (.val (.str (a ++ b)))
 | .eql, .bool a, .bool b => if bt.b = true then .val (.bool (a == b)) else .bad
 | .neq, .bool a, .bool b => if bt.b = true then .val (.bool (a != b)) else .bad
 | .eql, .agg a, .agg b => sV .bool (Qc bt.f a b)
 | .neq, .agg a, .agg b => sV (fun r => .bool (!r)) (Qc bt.f a b)
 | .eql, .iface _ _, .cW => if bt.i = true then .val (.bool false) else .bad
 | .neq, .iface _ _, .cW => if bt.i = true then .val (.bool true) else .bad
 | .eql, .a8, .a8 => if bt.p = true then .val (.bool true) else .bad
 | .eql, .box _ _, .a8 => if bt.p = true then .val (.bool false) else .bad
 | .neq, .a8, .a8 => if bt.p = true then .val (.bool false) else .bad
 | .neq, .box _ _, .a8 => if bt.p = true then .val (.bool true) else .bad
 | .eql, .ck _, .a8 => if bt.p = true then .val (.bool false) else .bad
 | .neq, .ck _, .a8 => if bt.p = true then .val (.bool true) else .bad
 | .eql, .al, .al => if bt.s = true then .val (.bool true) else .bad
 | .eql, .vec _ _ _, .al => if bt.s = true then .val (.bool false) else .bad
 | .eql, .ms _ _ _ _ _, .al => if bt.s = true then .val (.bool false) else .bad
 | _, _, _ => .bad
theorem RP (P : Program) (op : BinOp) (t : TypeId) (lit : Bool) (x y : AV) : aj op (Ux P t) lit x y = CZ P op t lit x y := by
 unfold aj CZ G6
 cases op <;> cases x <;> cases y <;> rfl
def tS (P : Program) (t : TypeId) : Option (List AV) := match ey P t with
 | some (e, _) => ny P e
 | none => none
def Qa (P : Program) (t : TypeId) : Option (Bool × Nat) := match so P t with
 | some (_, e, _) => lA P e
 | none => none
def NO (P : Program) (t : TypeId) : Option AV := match oB P t with
 | some (_, e) => zeroV P e
 | none => none
def NT (gt : Option (TypeId × Nat × List AV)) (ap : Option (TypeId × Nat)) (mu : Bool) (s y : AV) (U : St) : au :=
 match gt with
 | some q => w8 q mu s y
 | none => dM ap mu s y U
def Ha (C : cw) (mu : Bool) (c : Call) (ρ : Env) (U : St) : au :=
 match c.callee, c.argTypes.toList, c.args.toList with
 | .value (.func f), _, args => if eg C.P f = true then .enter f (args.map (ρ.ev C)) else .bad
 | .value f, _, args => gp C.P (ρ.ev C f) (args.map (ρ.ev C))
 | .builtin .len, [t], [x] => bz (HO C.P t) (ρ.ev C x)
 | .builtin .append, [t, u], [s, y] => NT (zm C.P t u) (G4 C.P t u) mu (ρ.ev C s) (ρ.ev C y) U
 | .builtin .cap, [t], [x] => vJ (ey C.P t) (ρ.ev C x)
 | .builtin .min, _, [x, y] => sG (ρ.ev C x) (ρ.ev C y)
 | .builtin .max, _, [x, y] => yC (ρ.ev C x) (ρ.ev C y)
 | .builtin .clear, [t], [x] => zc (ey C.P t) (tS C.P t) (ρ.ev C x) U
 | _, _, _ => .bad
def tB (C : cw) (mu : Bool) (o : Op) (ρ : Env) (U : St) : au :=
 match o with
 | .move x | .assign x => .val (ρ.ev C x)
 | .pick c a b => aQ (ρ.ev C c) (ρ.ev C a) (ρ.ev C b)
 | .alloc t => SZ t (ny C.P t)
 | .box _ x => fh (ρ.ev C x)
 | .build t parts => dj (xn C.P t) (ny C.P t) (so C.P t) (jY C ρ parts)
 | .buildSlice t n parts => aO (ey C.P t) (tS C.P t) n mu (jY C ρ parts)
 | .insert t m k v | .mapUpdate t m k v => iw (oB C.P t) (ρ.ev C m) (ρ.ev C k) (ρ.ev C v) U
 | .load t a => ao (lA C.P t) (ρ.ev C a) U
 | .store t a v => aL (lA C.P t) (ρ.ev C a) (ρ.ev C v) U
 | .nilCheck x => bF (ρ.ev C x)
 | .binOp op t x y _ => aj op (Ux C.P t) (isLit x || isLit y) (ρ.ev C x) (ρ.ev C y)
 | .unOp op _ x => fF op (ρ.ev C x)
 | .convert s d x => ua (HG C.P d) (C.P.underlying s).isSome (kW C.P d && kW C.P s) (uw C.P d && kW C.P s) (ρ.ev C x)
 | .makeInterface t x => oA (wv C.P t) t (ρ.ev C x)
 | .makeFunc fn first cap => .val (.func fn (first.toList.map (ρ.ev C)) (cap.toList.map (ρ.ev C)))
 | .makeMap _ none => .CA
 | .slice t x lo hi none => dx (kW C.P t) (ey C.P t) (ρ.ev C x) (lo.map (ρ.ev C)) (hi.map (ρ.ev C))
 | .fieldAddr s x f => ag (vP C.P s f) (ρ.ev C x)
 | .field s x f => rD (wZ C.P s f) (ρ.ev C x)
 | .indexAddr t x i => aF (ey C.P t) (so C.P t) (ρ.ev C x) (ρ.ev C i)
 | .index t x i => eE (kW C.P t) (so C.P t) (Qa C.P t) (ρ.ev C x) (ρ.ev C i)
 | .lookup t m k ok => fI (oB C.P t) (NO C.P t) (ρ.ev C m) (ρ.ev C k) ok U
 | .extract t i => bq (ρ.ev C t) i
 | .panic x => oD (ρ.ev C x)
 | .range t m => wF (oB C.P t) (ρ.ev C m)
 | .typeAssert x _ t ok => sR (wV C.P t) (ρ.ev C x) t ok
 | .makeSlice t l c => qi (ey C.P t) (tS C.P t) mu (ρ.ev C l) (ρ.ev C c)
 | .next i false => qk (ρ.ev C i) U
 | .entry i => mS (ρ.ev C i) U
 | .call c => Ha C mu c ρ U
 | _ => .bad
theorem N0 (C : cw) (mu : Bool) (c : Call) (ρ : Env) (U : St) : Ha C mu c ρ U = wW C mu c ρ U := by
 unfold Ha wW
 obtain ⟨callee, ⟨args⟩, ⟨Rr⟩⟩ := c
 cases callee with
 | value f =>
   cases f <;> simp only [gp, Env.ev, ik, iy]
 | invoke r m => rfl
 | builtin b =>
   cases b
   case clear =>
    dsimp only
    rcases Rr with _ | ⟨t, _ | ⟨u, _ | _⟩⟩ <;> rcases args with _ | ⟨x, _ | ⟨y, _ | _⟩⟩ <;> try rfl
    simp only [zc, vL, tS]
    generalize ρ.ev C x = y
    cases h : ey C.P t with
    | none => rfl
    | some es => (cases es; cases y <;> rfl)
   all_goals first | rfl | (dsimp only; rcases Rr with _ | ⟨t, _ | ⟨u, _ | _⟩⟩ <;> rcases args with _ | ⟨x, _ | ⟨y, _ | _⟩⟩ <;> rfl)
theorem rh (C : cw) (mu : Bool) (o : Op) (ρ : Env) (U : St) : tB C mu o ρ U = gY C mu o ρ U := by
 cases o with
 | binOp op t x y yt => exact RP _ _ _ _ _ _
 | call c => exact N0 _ _ _ _ _
 | buildSlice t n parts =>
   simp only [tB, gY, aO, pk, tS]
   cases h : ey C.P t with
   | none => rfl
   | some es => (cases es; rfl)
 | index t x i =>
   simp only [tB, gY, eE, zI, Qa]
   generalize ρ.ev C x = y
   generalize ρ.ev C i = z
   cases h : so C.P t with
   | none => cases y <;> rfl
   | some es => (cases es; cases y <;> cases z <;> rfl)
 | lookup t m k ok =>
   simp only [tB, gY, fI, tw, NO]
   generalize kD U (ρ.ev C m) = y
   cases h : oB C.P t with
   | none => rfl
   | some es => (cases es; cases y <;> rfl)
 | makeSlice t l c =>
   simp only [tB, gY, qi, qh, tS]
   generalize ρ.ev C l = y
   generalize ρ.ev C c = z
   cases h : ey C.P t with
   | none => rfl
   | some es => (cases es; cases y <;> cases z <;> rfl)
 | convert s d x =>
   simp only [tB, gY, ua, Cu, bR]
   rfl
 | makeMap t r => cases r <;> rfl
 | slice t x lo hi m => cases m <;> rfl
 | next i b => cases b <;> rfl
 | _ => rfl
end Go.Rip
namespace Go.Rip
open Go.RowKit
def Fn : Nat -> Type
 | 0 => St -> Prop
 | n + 1 => AV -> Fn n
namespace Fn
def app : (n : Nat) -> Fn n -> List AV -> St -> Prop
 | 0, f, _, U => f U
 | n + 1, f, x :: xs, U => app n (f x) xs U
 | n + 1, f, [], U => app n (f .any) [] U
def lam : (n : Nat) -> (List AV -> St -> Prop) -> Fn n
 | 0, F => fun U => F [] U
 | n + 1, F => fun x => lam n (fun xs U => F (x :: xs) U)
theorem nP : ∀ (n : Nat) (F : List AV -> St -> Prop) (xs : List AV) (U : St), xs.length = n -> app n (lam n F) xs U = F xs U
 | 0, F, [], U, _ => rfl
 | n + 1, F, x :: xs, U, h => nP n (fun xs U => F (x :: xs) U) xs U (by simpa using h)
 | 0, F, _ :: _, U, h => by simp at h
 | n + 1, F, [], U, h => by simp at h
def imp : (n : Nat) -> Fn n -> Fn n -> Prop
 | 0, f, g => ∀ U, f U -> g U
 | n + 1, f, g => ∀ x, imp n (f x) (g x)
theorem Gu : ∀ {n : Nat} {f g : Fn n}, imp n f g -> ∀ (xs : List AV) (U : St), xs.length = n -> app n f xs U -> app n g xs U
 | 0, f, g, h, xs, U, _, hf => h U hf
 | n + 1, f, g, h, x :: xs, U, hl, hf => Gu (h x) xs U (by simpa using hl) hf
 | n + 1, f, g, h, [], U, hl, hf => by simp at hl
theorem FZ : ∀ {n : Nat} {f g : Fn n}, (∀ (xs : List AV) (U : St), xs.length = n -> app n f xs U -> app n g xs U) -> imp n f g
 | 0, f, g, h => fun U hf => h [] U rfl hf
 | n + 1, f, g, h => fun x => FZ fun xs U hl hf => h (x :: xs) U (by simpa using hl) hf
end Fn
def zO : List Nat -> List AV -> Nat -> AV
 | s :: ss, x :: xs, t => cond (Nat.beq t s) x (zO ss xs t)
 | _, _, _ => .any
def AG (live : List Nat) (vs : List AV) : Env := ⟨zO live vs⟩
theorem B0 (f : Nat -> AV) (t : Nat) : ∀ live : List Nat, zO live (live.map f) t = f t \/ zO live (live.map f) t = .any
 | [] => .inr rfl
 | s :: ss => by
   simp only [dJ, zO]
   cases h : Nat.beq t s with
   | true => have := eB h; subst this; exact .inl rfl
   | false => exact B0 f t ss
theorem Bu (ρ : Env) (live : List Nat) (t : Nat) : (AG live (live.map ρ.get)).get t = ρ.get t \/ (AG live (live.map ρ.get)).get t = .any := B0 ρ.get t live
section
variable {C : cw} {nt : Nat} {ro : Ro} {U : St} {ρ : Env}
theorem bw.GY {c : Code} {Q : Ex -> Env -> St -> Prop} {dH : Env} (h : bw C nt ro c Q dH U) (hw : ∀ t, dH.get t = ρ.get t \/ dH.get t = .any) : bw C nt ro c Q ρ U :=
 fun g w a fr h1 h2 h3 h4 h5 => h g w a fr h1 h2 (fun t => by
  rcases hw t with e | e
  · rw [e]; exact h3 t
  · rw [e]; simp only [az]) h4 h5
end
structure Qx where
 n : Env -> St -> Prop
 e : Nat -> Env -> St -> Prop
 r : Env -> St -> Prop
 p : AV -> St -> Prop
def Qx.q (Q : Qx) : Ex -> Env -> St -> Prop
 | .normal, ρ, U => Q.n ρ U
 | .exit i, ρ, U => Q.e i ρ U
 | .ret, ρ, U => Q.r ρ U
 | .panic x, _, U => Q.p x U
def X8 (ops : Array Oper) (j : Nat) : Option Nat := (ops[j]?).bind (·.dst)
def ar (v : AV) (want : Bool) : AV := match v with
 | .bool b => .bool (b == want)
 | .aR [] => .bool false
 | _ => .any
def Dg (ops : Array Oper) (ρ : Env) (jw : Nat × Bool) : AV := match X8 ops jw.1 with
 | some d => ar (ρ.get d) jw.2
 | none => .any
theorem Dh (ops : Array Oper) (ρ : Env) (jw : Nat × Bool) : gd ops ρ (some jw) = Dg ops ρ jw := rfl
def A9 (b : Bool) (v : AV) : AV := match b with
 | true => v
 | false => .aR []
def dX (C : cw) (b : Bool) : au -> (AV -> Prop) -> Prop
 | .val v, k => k (A9 b v)
 | @au.cond p _ r, k => (b = true -> p) /\ dX C b r k
 | .enter f args, k => ∃ v, (b = true -> Pure C f args v) /\ k (A9 b v)
 | _, k => b = false /\ k (.aR [])
def ad (C : cw) (gv : AV) (r : au) (k : AV -> Prop) : Prop := match gv with
 | .bool b => dX C b r k
 | _ => False
theorem ya {C : cw} : ∀ (r : au) {k : AV -> Prop}, dX C true r k -> ∃ v, r.yv C v /\ k v
 | .val v, k, h => ⟨v, rfl, h⟩
 | @au.cond _ _ r, k, h => let ⟨v, h1, h2⟩ := ya r h.2; ⟨v, ⟨h.1 rfl, h1⟩, h2⟩
 | .enter _ _, k, h => let ⟨v, h1, h2⟩ := h; ⟨v, h1 rfl, h2⟩
 | .jQ _ _ _, _, h => by cases h.1
 | .new _ _ _, _, h => by cases h.1
 | .jz _ _, _, h => by cases h.1
 | .yield _ _, _, h => by cases h.1
 | .panic _, _, h => by cases h.1
 | .bad, _, h => by cases h.1
theorem wC {C : cw} : ∀ (r : au) {k : AV -> Prop}, dX C false r k -> k (.aR [])
 | .val v, k, h => h
 | @au.cond _ _ r, k, h => wC r h.2
 | .enter _ _, k, h => let ⟨v, h1, h2⟩ := h; h2
 | .jQ _ _ _, _, h => h.2
 | .new _ _ _, _, h => h.2
 | .jz _ _, _, h => h.2
 | .yield _ _, _, h => h.2
 | .panic _, _, h => h.2
 | .bad, _, h => h.2
theorem wD {C : cw} {gv : AV} {r : au} {k : AV -> Prop} (h : ad C gv r k) : (gv = .bool true /\ ∃ v, r.yv C v /\ k v) \/ (gv = .bool false /\ k (.aR [])) := by
 cases gv <;> simp only [ad] at h
 rename_i b
 cases b
 · exact .inr ⟨rfl, wC r h⟩
 · exact .inl ⟨rfl, ya r h⟩
def Wh (pf : List Nat) (o : Op) : Bool := match o with
 | .call c => match c.callee with
   | .value (.func f) => pf.any fun g => Nat.beq g f
   | .value _ => false
   | _ => quiet o
 | o => quiet o
def DS (C : cw) (o : Op) (ρ : Env) : Option AV := match o with
 | .move x | .assign x => some (ρ.ev C x)
 | .makeFunc fn first cap => some (.func fn (first.toList.map (ρ.ev C)) (cap.toList.map (ρ.ev C)))
 | _ => none
theorem AP {C : cw} {o : Op} {ρ : Env} {v : AV} (h : DS C o ρ = some v) (mu : Bool) (U : St) : tB C mu o ρ U = .val v := by
 unfold DS at h
 split at h
 · cases h; rfl
 · cases h; rfl
 · cases h; rfl
 · cases h
def sI (C : cw) (mu pf : List Nat) (ops : Array Oper) : List Oper -> Env -> St -> (Env -> St -> Prop) -> (AV -> St -> Prop) -> Prop
 | [], ρ, U, K, _ => K ρ U
 | o :: rest, ρ, U, K, Kp => match o.guard with
   | none => match DS C o.op ρ with
     | some v => sI C mu pf ops rest (ρ.ep o.dst v) U K Kp
     | none => (tB C (nE mu o) o.op ρ U).wp C U (fun v U => sI C mu pf ops rest (ρ.ep o.dst v) U K Kp) Kp
   | some jw => match Wh pf o.op with
     | true => ad C (Dg ops ρ jw) (tB C (nE mu o) o.op ρ U) (fun v => sI C mu pf ops rest (ρ.ep o.dst v) U K Kp)
     | false => aq (Dg ops ρ jw) ((tB C (nE mu o) o.op ρ U).wp C U (fun v U => sI C mu pf ops rest (ρ.ep o.dst v) U K Kp) Kp)
       (sI C mu pf ops rest (ρ.ep o.dst (.aR [])) U K Kp)
theorem tC {C : cw} {mu pf : List Nat} {ops : Array Oper} {K : Env -> St -> Prop} {Kp : AV -> St -> Prop} : ∀ (l : List Oper) (ρ : Env) (U : St),
 sI C mu pf ops l ρ U K Kp -> mM C mu ops l ρ U K Kp
 | [], _, _, h => h
 | o :: rest, ρ, U, h => by
   have step : ∀ {r : au}, r.wp C U (fun v U => sI C mu pf ops rest (ρ.ep o.dst v) U K Kp) Kp ->
    r.wp C U (fun v ae => mM C mu ops rest (ρ.ep o.dst v) ae K Kp) Kp := fun hr => au.wp_mono (fun v ae hv => tC rest _ _ hv) _ hr
   simp only [sI] at h
   simp only [mM]
   show aq (gd ops ρ o.guard) ((gY C (nE mu o) o.op ρ U).wp C U (fun v ae => mM C mu ops rest (ρ.ep o.dst v) ae K Kp) Kp) (mM C mu ops rest (ρ.ep o.dst (.aR [])) U K Kp)
   rw [<- rh]
   cases hg : o.guard with
   | none =>
     rw [hg] at h
     simp only at h
     refine ⟨fun _ => ?_, fun hf => (by cases hf)⟩
     split at h
     · rename_i v hv
       rw [AP hv]
       exact tC rest _ _ h
     · exact step h
   | some jw =>
     rw [hg] at h
     simp only at h
     rw [Dh]
     split at h
     · rcases wD h with ⟨hb, v, hv, hk⟩ | ⟨hb, hk⟩
       · rw [hb]
         refine ⟨fun _ => ?_, fun hf => (by cases hf)⟩
         exact au.IB _ hv (tC rest _ _ hk)
       · rw [hb]
         exact ⟨fun hf => (by cases hf), fun _ => tC rest _ _ hk⟩
     · cases hv : Dg ops ρ jw <;> rw [hv] at h <;> simp only [aq] at h ⊢
       exact ⟨fun e => step (h.1 e), fun e => tC rest _ _ (h.2 e)⟩
def aw (C : cw) : au -> (AV -> Prop) -> Prop
 | .val v, k => k v
 | @au.cond p _ r, k => p /\ aw C r k
 | .enter f args, k => ∃ v, Pure C f args v /\ k v
 | _, _ => False
theorem B8 {C : cw} : ∀ (r : au) {k : AV -> Prop}, aw C r k -> ∃ v, r.yv C v /\ k v
 | .val v, k, h => ⟨v, rfl, h⟩
 | @au.cond _ _ r, k, h => let ⟨v, h1, h2⟩ := B8 r h.2; ⟨v, ⟨h.1, h1⟩, h2⟩
 | .enter _ _, k, h => h
 | .jQ _ _ _, _, h => h.elim
 | .new _ _ _, _, h => h.elim
 | .jz _ _, _, h => h.elim
 | .yield _ _, _, h => h.elim
 | .panic _, _, h => h.elim
 | .bad, _, h => h.elim
def Dp (C : cw) (ρ : Env) (o : Op) : List Nat := o.operands.toList.flatMap fun x => cB (ρ.ev C x)
def Wl (b : Bool) (P k : Prop) : Prop := match b with
 | true => P /\ k
 | false => k
def VO (b : Bool) (P k : Prop) : Prop := match b with
 | true => k
 | false => P /\ k
theorem JU {ops : Array Oper} {i : Nat} {I : St -> Prop} {U : St} {k : Prop} (h : VO (jy ops i) (I U) k) : Ix ops I i U /\ k := by
 unfold Ix
 cases ha : jy ops i <;> rw [ha] at h <;> simp only [VO] at h
 · exact ⟨.inr h.1, h.2⟩
 · exact ⟨.inl rfl, h⟩
def zY (C : cw) (ops : Array Oper) (ρ : Env) (g : Option (Nat × Bool)) (i : Option AV) (r : au) (k : AV -> Prop) : Prop := match g with
 | none => match i with
   | some v => k v
   | none => aw C r k
 | some jw => ad C (Dg ops ρ jw) r k
def gW (ops : Array Oper) (ρ : Env) (g : Option (Nat × Bool)) (A B : Prop) : Prop := match g with
 | none => A
 | some jw => aq (Dg ops ρ jw) A B
def rZ (C : cw) (mu : List Nat) (ops : Array Oper) (aG : St) (K : Env -> St -> Prop) (Kp : AV -> St -> Prop) (B : List Nat) : List (Bool × Nat) -> Env -> St -> Prop
 | [], ρ, U => K ρ U
 | (true, i) :: r, ρ, U => match ops[i]? with
   | none => False
   | some o => match quiet o.op with
     | false => False
     | true => Wl (mw o.op) (∀ b ∈ Dp C ρ o.op, b ∈ B) (zY C ops ρ o.guard (DS C o.op ρ) (tB C (nE mu o) o.op ρ aG) fun v => rZ C mu ops aG K Kp B r (ρ.ep o.dst v) U)
 | (false, i) :: r, ρ, U => match ops[i]? with
   | none => False
   | some o => gW ops ρ o.guard ((tB C (nE mu o) o.op ρ U).wp C U (fun v U => VO (jy ops i) (cU B aG U) (rZ C mu ops aG K Kp B r (ρ.ep o.dst v) U)) Kp)
      (rZ C mu ops aG K Kp B r (ρ.ep o.dst (.aR [])) U)
def CC (C : cw) (mu : List Nat) (ops : Array Oper) (aG : St) (K : Env -> St -> Prop) (Kp : AV -> St -> Prop) : List (Bool × Nat) -> List Nat -> Env -> St -> Prop
 | [], _, ρ, U => K ρ U
 | (true, i) :: r, B, ρ, U => match ops[i]? with
   | none => False
   | some o => match quiet o.op with
     | false => False
     | true => zY C ops ρ o.guard (DS C o.op ρ) (tB C (nE mu o) o.op ρ aG) fun v => CC C mu ops aG K Kp r (match mw o.op with | true => Dp C ρ o.op ++ B | false => B) (ρ.ep o.dst v) U
 | (false, i) :: r, B, ρ, U => rZ C mu ops aG K Kp B ((false, i) :: r) ρ U
section
variable {C : cw} {mu : List Nat} {ops : Array Oper} {aG : St} {K : Env -> St -> Prop} {Kp : AV -> St -> Prop}
theorem Oj {ρ : Env} {g : Option (Nat × Bool)} {A B : Prop} (h : gW ops ρ g A B) : (gd ops ρ g = .bool true /\ A) \/ (gd ops ρ g = .bool false /\ B) := by
 unfold gW at h
 cases g with
 | none => exact .inl ⟨rfl, h⟩
 | some jw =>
   simp only at h
   rw [Dh]
   cases hv : Dg ops ρ jw <;> rw [hv] at h <;> simp only [aq] at h
   rename_i b
   cases b
   · exact .inr ⟨rfl, h.2 rfl⟩
   · exact .inl ⟨rfl, h.1 rfl⟩
theorem wE {ρ : Env} {g : Option (Nat × Bool)} {i : Option AV} {r : au} {k : AV -> Prop} (hi : ∀ v, i = some v -> r = .val v) (h : zY C ops ρ g i r k) : (gd ops ρ g = .bool true /\ ∃ v, r.yv C v /\ k v) \/ (gd ops ρ g = .bool false /\ k (.aR [])) := by
 unfold zY at h
 cases g with
 | none =>
   cases i with
   | none => exact .inl ⟨rfl, B8 r h⟩
   | some v => rw [hi v rfl]; exact .inl ⟨rfl, v, rfl, h⟩
 | some jw => simp only at h; rw [Dh]; exact wD h
theorem zt {ρ : Env} {o : Op} {x : Operand} (hx : x ∈ o.operands.toList) {b : Nat} (hb : b ∈ cB (ρ.ev C x)) : b ∈ Dp C ρ o := List.mem_flatMap.2 ⟨x, hx, hb⟩
theorem qB (B : List Nat) : ∀ (l : List (Bool × Nat)) (ρ : Env) (U : St), rZ C mu ops aG K Kp B l ρ U -> kM C mu ops B aG K Kp l ρ U
 | [], _, _, h => h
 | (true, i) :: r, ρ, U, h => by
   simp only [rZ] at h
   split at h
   · exact h.elim
   · rename_i o ho
     split at h
     · exact h.elim
     · rename_i hq
       have key : ∀ {P k : Prop}, Wl (mw o.op) P k -> (mw o.op = true -> P) /\ k := fun {P k} h => by
        cases hr : mw o.op <;> rw [hr] at h <;> simp only [Wl] at h
        · exact ⟨fun h => (by cases h), h⟩
        · exact ⟨fun _ => h.1, h.2⟩
       obtain ⟨hB, h⟩ := key h
       rcases wE (fun v hv => AP hv _ _) h with ⟨hg, v, hv, hk⟩ | ⟨hg, hk⟩
       · rw [rh] at hv
         exact ⟨o, v, ho, .inl ⟨hg, hq, fun hr x hx b hb => hB hr b (zt hx hb), hv⟩, qB B r _ _ hk⟩
       · exact ⟨o, .aR [], ho, .inr ⟨hg, rfl⟩, qB B r _ _ hk⟩
 | (false, i) :: r, ρ, U, h => by
   simp only [rZ] at h
   simp only [kM, mz]
   split at h
   · exact h.elim
   · rename_i o ho
     rw [ho]
     simp only
     rw [rh] at h
     rcases Oj h with ⟨hg, h⟩ | ⟨hg, h⟩
     · rw [hg]
       exact ⟨fun _ => au.wp_mono (fun v U hv => ⟨(JU (I := cU B aG) hv).1, qB B r _ _ (JU (I := cU B aG) hv).2⟩) _ h, fun h => by cases h⟩
     · rw [hg]
       exact ⟨fun h => (by cases h), fun _ => qB B r _ _ h⟩
theorem AY : ∀ (l : List (Bool × Nat)) (B : List Nat) (ρ : Env) (U : St), CC C mu ops aG K Kp l B ρ U -> ∃ B', (∀ b ∈ B, b ∈ B') /\ kM C mu ops B' aG K Kp l ρ U
 | [], B, _, _, h => ⟨B, fun _ h => h, h⟩
 | (true, i) :: r, B, ρ, U, h => by
   simp only [CC] at h
   split at h
   · exact h.elim
   · rename_i o ho
     split at h
     · exact h.elim
     · rename_i hq
       rcases wE (fun v hv => AP hv _ _) h with ⟨hg, v, hv, hk⟩ | ⟨hg, hk⟩
       · rw [rh] at hv
         obtain ⟨B', hB, hA⟩ := AY r _ _ _ hk
         refine ⟨B', fun b hb => hB b ?_, o, v, ho, .inl ⟨hg, hq, fun hr x hx b hb => hB b ?_, hv⟩, hA⟩
         · split
           · exact List.mem_append_right _ hb
           · exact hb
         · rw [hr]; exact List.mem_append_left _ (zt hx hb)
       · obtain ⟨B', hB, hA⟩ := AY r _ _ _ hk
         refine ⟨B', fun b hb => hB b ?_, o, .aR [], ho, .inr ⟨hg, rfl⟩, hA⟩
         split
         · exact List.mem_append_right _ hb
         · exact hb
 | (false, i) :: r, B, ρ, U, h => ⟨B, fun _ h => h, qB B _ _ _ h⟩
end
structure Qr where
 Gw : (St -> Prop) -> St -> Prop
 n : St -> Prop
 e : Nat -> St -> Prop
 r : St -> Prop
def pX : Nat -> Type
 | 0 => Qr -> St -> Prop
 | n + 1 => AV -> pX n
def pX.app : (n : Nat) -> pX n -> List AV -> Qr -> St -> Prop
 | 0, f, _, q, U => f q U
 | n + 1, f, x :: xs, q, U => pX.app n (f x) xs q U
 | n + 1, f, [], q, U => pX.app n (f .any) [] q U
def pX.lam : (n : Nat) -> (List AV -> Qr -> St -> Prop) -> pX n
 | 0, F => fun q U => F [] q U
 | n + 1, F => fun x => pX.lam n (fun xs q U => F (x :: xs) q U)
theorem pX.nP : ∀ (n : Nat) (F : List AV -> Qr -> St -> Prop) (xs : List AV) (q : Qr) (U : St), xs.length = n -> pX.app n (pX.lam n F) xs q U = F xs q U
 | 0, F, [], q, U, _ => rfl
 | n + 1, F, x :: xs, q, U, h => pX.nP n (fun xs U => F (x :: xs) U) xs q U (by simpa using h)
 | 0, F, _ :: _, q, U, h => by simp at h
 | n + 1, F, [], q, U, h => by simp at h
def fw.st (L : fw) (s : LoopState) (p : Option Code) : fw := { L with state := s, eT := p }
def aa1 (o : Nat) (k : St -> Prop) (U : St) : Prop := ∃ L, U.loop o = some L /\ L.state = .ready /\ k (U.set o (.loop { L with state := .busy }))
def aa2 (o : Nat) (R : cD -> St -> Prop) : Qr where
 Gw := aa1 o
 n := fun U => ∃ L, U.loop o = some L /\ R (.ret (.bool true)) (U.set o (.loop { L with state := .ready, eT := none }))
 e := fun id U => ∃ L, U.loop o = some L /\ R (.ret (.bool false)) (U.set o (.loop { L with state := .done, eT := some (.exit id) }))
 r := fun U => ∃ L, U.loop o = some L /\ R (.ret (.bool false)) (U.set o (.loop { L with state := .done, eT := some .ret }))
def Kz (o : Nat) (Kn : St -> Prop) (Ke : Nat -> St -> Prop) (Kr : St -> Prop) (Kp : AV -> St -> Prop) : cD -> St -> Prop
 | .ret _, ae => ∃ L, ae.loop o = some L /\ L.state ≠ .busy /\ (match L.eT with
   | none => Kn (ae.del o)
   | some .ret => Kr (ae.del o)
   | some (.exit id) => Ke id (ae.del o)
   | _ => False)
 | .panic x, ae => Kp x ae
def tE (C : cw) (np : Nat) (fv : AV) (U : St) (B : pX np) (Kn : St -> Prop) (Ke : Nat -> St -> Prop) (Kr : St -> Prop) (Kp : AV -> St -> Prop) : Prop :=
 match fv with
 | .func (.func iq) first cap => eg C.P iq = true /\ ∀ (o : Nat) (L : fw), U.cY o -> L.state = .ready -> L.eT = none ->
   (∀ (args : List AV) (bJ : St) (R : cD -> St -> Prop) (L1 : fw), args.length = np -> bJ.loop o = some L1 -> L1.st .ready none = L -> pX.app np B args (aa2 o R) bJ -> jW C o args bJ R) ->
   af C iq (first ++ [.pN o] ++ cap) (U.new o (.loop L)) (Kz o Kn Ke Kr Kp)
 | _ => False
def I7 (b : Bool) (A B : Prop) : Prop := match b with
 | true => A
 | false => B
def gG (n : Nat) (J : Fn n) (B : Fn n -> Prop) : Prop := ∀ j : Fn n, Fn.imp n J j -> B j
def cK (n : Nat) (init : List AV) (U : St) (B : Fn n -> Fn n) : Prop :=
 ∃ I : Nat -> Fn n, (∃ m, Fn.app n (I m) init U) /\ ∀ m, Fn.imp n (I m) (B (Fn.lam n fun vs U => ∃ m', m' < m /\ Fn.app n (I m') vs U))
inductive An where
 | z
 | sq (live : Option (List Nat)) (a b : An)
 | cd (a b : An)
 | bk (a : An)
 | lp (live : List Nat) (a : An)
 | rg (mu pf : List Nat) (df : Option Pl)
 | rb (mu : List Nat) (df : Pl)
 | rf (a b : An)
def mh (C : cw) : Code -> An -> Qx -> Env -> St -> Prop
 | .skip, _, Q, ρ, U => Q.n ρ U
 | .exit i, _, Q, ρ, U => Q.e i ρ U
 | .ret, _, Q, ρ, U => Q.r ρ U
 | .seq a b, .sq none x y, Q, ρ, U => mh C a x { Q with n := fun ρ U => mh C b y Q ρ U } ρ U
 | .seq a b, .sq (some live) x y, Q, ρ, U => gG live.length (Fn.lam live.length fun vs U => mh C b y Q (AG live vs) U)
    fun j => mh C a x { Q with n := fun ρ U => Fn.app live.length j (live.map ρ.get) U } ρ U
 | .cond c a b, .cd x y, Q, ρ, U => aq (ρ.ev C c) (mh C a x Q ρ U) (mh C b y Q ρ U)
 | .block i a, .bk x, Q, ρ, U => mh C a x { Q with e := fun k ρ U => I7 (Nat.beq k i) (Q.n ρ U) (Q.e k ρ U) } ρ U
 | .loop a, .lp live x, Q, ρ, U => cK live.length (live.map ρ.get) U fun lp => Fn.lam live.length fun vs U =>
    mh C a x { Q with n := fun ρ U => Fn.app live.length lp (live.map ρ.get) U } (AG live vs) U
 | .region _ ops false, .rg mu pf none, Q, ρ, U => sI C mu pf ops ops.toList ρ U Q.n Q.p
 | .region _ ops true, .rg mu pf (some df), Q, ρ, U => CC C mu ops U Q.n Q.p df.steps [] ρ U
 | .region _ ops true, .rb mu df, Q, ρ, U => ∃ B : List Nat, rZ C mu ops U Q.n Q.p B df.steps ρ U
 | .rangeFunc f ps a b, .rf x y, Q, ρ, U => tE C ps.size (ρ.ev C f) U (pX.lam ps.size fun args qr U => mh C a x
    { n := fun ρ U => qr.Gw (fun U => mh C b y { n := fun _ U => qr.n U, e := fun i _ U => qr.e i U, r := fun _ U => qr.r U, p := fun _ _ => False } ρ U) U, e := fun _ _ _ => False, r := fun _ _ => False, p := fun _ _ => False }
    ⟨uJ ρ.get ps.toList args⟩ U) (fun U => Q.n ρ U) (fun i U => Q.e i ρ U) (fun U => Q.r ρ U) (fun x U => Q.p x U)
 | _, _, _, _, _ => False
def ko (nt : Nat) : Bool -> Code -> An -> Bool
 | _, .skip, _ => true
 | _, .exit _, _ => true
 | _, .ret, _ => true
 | top, .seq a b, .sq _ x y => ko nt top a x && ko nt top b y
 | top, .cond _ a b, .cd x y => ko nt top a x && ko nt top b y
 | top, .block _ a, .bk x => ko nt top a x
 | top, .loop a, .lp _ x => ko nt top a x
 | _, .region _ ops false, .rg _ _ none => kL nt ops
 | _, .region _ ops true, .rg _ _ (some df) => kL nt ops && Ia ops df
 | _, .region _ ops true, .rb _ df => kL nt ops && Ia ops df
 | top, .rangeFunc _ ps a b, .rf x y => top && ps.toList.all (fun t => Nat.blt t nt) && ko nt false a x && ko nt false b y
 | _, _, _ => false
theorem wS {C : cw} {nt : Nat} (hm : C.P.follows .mixedOrders = true) : ∀ (c : Code) (an : An) (top : Bool) (ro : Ro) (Q : Qx) (ρ : Env) (U : St), ko nt top c an = true -> (top = true -> ro = .fn) ->
 mh C c an Q ρ U -> bw C nt ro c Q.q ρ U := by
 intro c
 induction c with
 | skip => intro an top ro Q ρ U cF ht h; exact bw.skip h
 | exit i => intro an top ro Q ρ U cF ht h; exact bw.exit h
 | ret => intro an top ro Q ρ U cF ht h; exact bw.ret h
 | seq a b wh Gs =>
   intro an top ro Q ρ U cF ht h
   cases an <;> simp only [ko, bo, bR] at cF
   rename_i live x y
   refine bw.seq ?_
   cases live with
   | none =>
     simp only [mh] at h
     refine (wh x top ro _ ρ U cF.1 ht h).mono fun e ρ U he => ?_
     cases e <;> first | exact Gs y top ro Q ρ U cF.2 ht he | exact he
   | some live =>
     simp only [mh] at h
     have := h (Fn.lam live.length fun vs U => bw C nt ro b Q.q (AG live vs) U) (Fn.FZ fun xs U hl hx => by
      rw [Fn.nP _ _ _ _ hl] at hx ⊢
      exact Gs y top ro Q _ _ cF.2 ht hx)
     refine (wh x top ro _ ρ U cF.1 ht this).mono fun e ρ U he => ?_
     cases e with
     | normal =>
       have jP : Fn.app live.length (Fn.lam live.length fun vs U => bw C nt ro b Q.q (AG live vs) U) (live.map ρ.get) U := he
       rw [Fn.nP _ _ _ _ (by simp)] at jP
       exact bw.GY jP (Bu ρ live)
     | exit i => exact he
     | ret => exact he
     | panic x => exact he
 | cond c a b wh Gs =>
   intro an top ro Q ρ U cF ht h
   cases an <;> simp only [ko, bo, bR] at cF
   rename_i x y
   simp only [mh] at h
   cases hc : ρ.ev C c <;> rw [hc] at h <;> simp only [aq] at h
   exact bw.cond hc (fun e => wh x top ro Q ρ U cF.1 ht (h.1 e)) (fun e => Gs y top ro Q ρ U cF.2 ht (h.2 e))
 | block i a wh =>
   intro an top ro Q ρ U cF ht h
   cases an <;> simp only [ko, bo] at cF
   rename_i x
   simp only [mh] at h
   refine bw.block ((wh x top ro _ ρ U cF ht h).mono fun e ρ U he => ?_)
   cases e with
   | exit k =>
     have jP : I7 (Nat.beq k i) (Q.n ρ U) (Q.e k ρ U) := he
     simp only [vH]
     cases hb : Nat.beq k i with
     | true => rw [hb] at jP; rw [if_pos (eB hb)]; exact jP
     | false => rw [hb] at jP; rw [if_neg (fun e => by subst e; simp at hb)]; exact jP
   | normal => exact he
   | ret => exact he
   | panic x => exact he
 | loop a wh =>
   intro an top ro Q ρ U cF ht h
   cases an <;> simp only [ko, bo] at cF
   rename_i live x
   simp only [mh] at h
   obtain ⟨I, ⟨m, h0⟩, hr⟩ := h
   refine bw.loop (fun m ρ U => Fn.app live.length (I m) (live.map ρ.get) U) (n := m) h0 fun m ρ U hI => ?_
   have := Fn.Gu (hr m) _ _ (by simp) hI
   rw [Fn.nP _ _ _ _ (by simp)] at this
   refine bw.GY ((wh x top ro _ _ _ cF ht this).mono fun e dH ae he => ?_) (Bu ρ live)
   cases e with
   | normal =>
     have jP : Fn.app live.length (Fn.lam live.length fun vs U => ∃ m', m' < m /\ Fn.app live.length (I m') vs U) (live.map dH.get) ae := he
     rw [Fn.nP _ _ _ _ (by simp)] at jP
     exact jP
   | exit i => exact he
   | ret => exact he
   | panic x => exact he
 | region id ops draw =>
   intro an top ro Q ρ U cF ht h
   have kp : vy Q.q = fun x U => ∀ ρ : Env, Q.p x U := rfl
   cases draw with
   | false =>
     cases an with
     | rg mu pf df =>
       cases df with
       | none =>
         simp only [ko] at cF
         simp only [mh] at h
         refine bw.region mu cF ?_
         have h2 := tC _ ρ U h
         exact rX (fun _ _ h => h) (fun v U hv ρ => hv) _ h2
       | some df => simp [ko] at cF
     | _ => simp [ko] at cF
   | true =>
     cases an with
     | rg mu pf df =>
       cases df with
       | none => simp [ko] at cF
       | some df =>
         simp only [ko, bR] at cF
         simp only [mh] at h
         obtain ⟨B, _, hA⟩ := AY _ _ _ _ h
         refine bw.uO mu B df.steps hm cF.1 (GN cF.2) ?_
         exact ix (fun _ _ h => h) (fun v U hv ρ => hv) _ hA
     | rb mu df =>
       simp only [ko, bR] at cF
       simp only [mh] at h
       obtain ⟨B, hB⟩ := h
       refine bw.uO mu B df.steps hm cF.1 (GN cF.2) ?_
       exact ix (fun _ _ h => h) (fun v U hv ρ => hv) _ (qB B _ _ _ hB)
     | _ => simp [ko] at cF
 | rangeFunc f ps a b wh Gs =>
   intro an top ro Q ρ U cF ht h
   cases an <;> simp only [ko, bo, bR] at cF
   rename_i x y
   obtain ⟨⟨⟨h1, h2⟩, h3⟩, h4⟩ := cF
   have DH := ht h1
   subst DH
   simp only [mh, tE] at h
   split at h
   · rename_i iq first cap hf
     obtain ⟨qN, h⟩ := h
     refine bw.rangeFunc 0 hf qN fun o ho => ?_
     refine (h o ⟨ρ.get, nt, ps, a, b, .ready, none, 0⟩ ho rfl rfl ?_).mono fun r ae hr => ?_
     · intro args bJ R L1 hl pF fp hB
       obtain ⟨r1, r2, r3, r4, r5, r6, r7, r8⟩ := L1
       simp only [fw.st, fw.mk.injEq, true_and] at fp
       obtain ⟨e1, e2, e3, e4, e5, e6⟩ := fp
       subst e1 e2 e3 e4 e5 e6
       rw [pX.nP _ _ _ _ _ hl] at hB
       refine jW.Ee pF (by simpa using hl) (fun t ht => by
        have := ef.1 h2 t ht
        exact Nat.le_of_ble_eq_true this) ?_
       refine (wh x false (.round o) _ _ _ h3 (fun h => by cases h) hB).mono fun e dH ae he => ?_
       cases e with
       | normal =>
         obtain ⟨L, k1, k2, k3⟩ := he
         refine ⟨L, k1, k2, (Gs y false (.round o) _ _ _ h4 (fun h => by cases h) k3).mono fun e pO bP he => ?_⟩
         cases e with
         | normal => exact he
         | exit i => exact he
         | ret => exact he
         | panic x => exact he
       | exit i => exact he
       | ret => exact he
       | panic x => exact he
     · cases r with
       | ret v =>
         obtain ⟨L, k1, k2, k3⟩ := hr
         refine ⟨L, k1, k2, ?_⟩
         split at k3
         · rename_i hp; rw [hp]; exact k3
         · rename_i hp; rw [hp]; exact k3
         · rename_i hp; rw [hp]; exact k3
         · exact k3.elim
       | panic v => exact hr
   · exact h.elim
 | scope a wh => intro an top ro Q ρ U cF; cases an <;> simp [ko] at cF
 | label l => intro an top ro Q ρ U cF; cases an <;> simp [ko] at cF
 | goto l => intro an top ro Q ρ U cF; cases an <;> simp [ko] at cF
 | refuse w => intro an top ro Q ρ U cF; cases an <;> simp [ko] at cF
def br (vt : Option (Bool × Nat)) (p : AV) (U : St) (k : AV -> Prop) : Prop := match ao vt p U with
 | .val v => k v
 | @au.cond q _ (.val v) => q /\ k v
 | _ => False
def A0 (P : Program) (ρ : Env) (U : St) : List ResultVar -> (List AV -> Prop) -> Prop
 | [], k => k []
 | .tmp t :: rs, k => A0 P ρ U rs fun vs => k (ρ.get t :: vs)
 | .cell t ty :: rs, k => br (lA P ty) (ρ.get t) U fun v => A0 P ρ U rs fun vs => k (v :: vs)
theorem tF {P : Program} {ρ : Env} {U : St} : ∀ (l : List ResultVar) (k : List AV -> Prop), A0 P ρ U l k -> sL P ρ U l k
 | [], _, h => h
 | .tmp t :: rs, k, h => tF rs _ h
 | .cell t ty :: rs, k, h => by
   simp only [A0, br] at h
   simp only [sL, xg]
   rw [show rR P ty (ρ.get t) U = ao (lA P ty) (ρ.get t) U from rfl]
   split at h
   · rename_i hl; rw [hl]; exact tF rs _ h
   · rename_i hl; rw [hl]; exact ⟨h.1, tF rs _ h.2⟩
   · exact h.elim
def ak (R : cD -> St -> Prop) (x : AV) (U : St) : Prop := ∃ x' ae, lK x U x' ae /\ R (.ret x') ae
def aa (R : cD -> St -> Prop) (x : AV) (U : St) : Prop := R (.panic x) U
def aba (P : Program) (fn : Func) (R : cD -> St -> Prop) : Qx where
 n := fun ρ U => A0 P ρ U fn.results.toList fun vs => ak R (sP vs) U
 e := fun _ _ _ => False
 r := fun ρ U => A0 P ρ U fn.results.toList fun vs => ak R (sP vs) U
 p := aa R
def G8 (C : cw) (fn : Func) (an : An) (args : List AV) (R : cD -> St -> Prop) (U : St) : Prop := match fn.body with
 | some c => mh C c an (aba C.P fn R) (Env.gX args) U
 | none => False
def okF (fn : Func) (an : An) (n : Nat) : Bool := match fn.body with
 | some c => ko fn.ntmps true c an && Nat.ble n fn.ntmps
 | none => false
theorem af.Sh {C : cw} (hm : C.P.follows .mixedOrders = true) {f : FuncId} {fn : Func} (an : An) {args : List AV} {R : cD -> St -> Prop} {U : St} (hf : C.P.funcs[f]? = some fn) (cF : okF fn an args.length = true)
 (h : G8 C fn an args R U) : af C f args U R := by
 unfold okF at cF
 unfold G8 at h
 split at cF
 · rename_i c hb
   rw [hb] at h
   simp only [bR] at cF
   refine af.GH hf hb (Nat.le_of_ble_eq_true cF.2) ?_
   refine (wS hm c an true .fn _ _ _ cF.1 (fun _ => rfl) h).mono fun e ρ U he => ?_
   cases e with
   | normal => exact tF _ _ he
   | ret => exact tF _ _ he
   | panic x => exact he
   | exit i => exact he
 · cases cF
theorem ak.mk {R : cD -> St -> Prop} {x : AV} {U : St} (h : R (.ret x) U) : ak R x U := ⟨x, U, lK.refl _ _, h⟩
end Go.Rip
namespace Go.Rip
open Go.RowKit
section
variable {C : cw} {U : St} {K : AV -> St -> Prop} {Kp : AV -> St -> Prop}
@[simp] theorem ah (v : AV) : (au.val v).wp C U K Kp = K v U := rfl
@[simp] theorem jG (v : AV) (b : Nat) (x : Live) : (au.jQ v b x).wp C U K Kp = K v (U.set b x) := rfl
@[simp] theorem mi (k : NV) (x : Live) : (au.new k none x).wp C U K Kp = ∀ b, U.cY b -> K (k.at b) (U.new b x) := rfl
@[simp] theorem abG (k : NV) (d : Nat) (x : Live) : (au.new k (some d) x).wp C U K Kp = ∀ b, (U.del d).cY b -> K (k.at b) ((U.del d).new b x) := rfl
@[simp] theorem jk (f : FuncId) (args : List AV) : (au.enter f args).wp C U K Kp = af C f args U (ax K Kp) := rfl
@[simp] theorem yW (f : Nat) (args : List AV) : (au.yield f args).wp C U K Kp = jW C f args U (ax K Kp) := rfl
@[simp] theorem P9 (v : AV) : (au.panic v).wp C U K Kp = Kp v U := rfl
@[simp] theorem wp_cond (p : Prop) [Decidable p] (r : au) : (au.cond p r).wp C U K Kp = (p /\ r.wp C U K Kp) := rfl
@[simp] theorem abI : au.bad.wp C U K Kp = False := rfl
@[simp] theorem abJ (p : Prop) [Decidable p] (r s : au) : (if p then r else s).wp C U K Kp = if p then r.wp C U K Kp else s.wp C U K Kp := by split <;> rfl
@[simp] theorem bA (x : AV) : ax K Kp (.ret x) U = K x U := rfl
@[simp] theorem Xl (x : AV) : ax K Kp (.panic x) U = Kp x U := rfl
end
@[simp] theorem Xm (b : Bool) (A B : Prop) : aq (.bool b) A B = ((b = true -> A) /\ (b = false -> B)) := rfl
theorem bf (A B : Prop) : aq (.bool true) A B = A := by simp [aq]
theorem aW (A B : Prop) : aq (.bool false) A B = B := by simp [aq]
theorem aY (p : Prop) [Decidable p] (A B : Prop) : aq (.bool (decide p)) A B = ((p -> A) /\ (¬ p -> B)) := by simp [aq]
@[simp] theorem aI (b w : Bool) : ar (.bool b) w = .bool (b == w) := rfl
@[simp] theorem abB (w : Bool) : ar (.aR []) w = .bool false := rfl
@[simp] theorem ga (v : AV) : A9 true v = v := rfl
@[simp] theorem Ab (v : AV) : A9 false v = .aR [] := rfl
@[simp] theorem aC (C : cw) (b : Bool) (r : au) (k : AV -> Prop) : ad C (.bool b) r k = dX C b r k := rfl
@[simp] theorem jB (C : cw) (b : Bool) (v : AV) (k : AV -> Prop) : dX C b (.val v) k = k (A9 b v) := rfl
@[simp] theorem Xo (C : cw) (b : Bool) (p : Prop) [Decidable p] (r : au) (k : AV -> Prop) : dX C b (.cond p r) k = ((b = true -> p) /\ dX C b r k) := rfl
@[simp] theorem Wg (C : cw) (b : Bool) (f : FuncId) (args : List AV) (k : AV -> Prop) : dX C b (.enter f args) k = ∃ v, (b = true -> Pure C f args v) /\ k (A9 b v) := rfl
@[simp] theorem a7 (C : cw) (k : AV -> Prop) : ∀ r : au, (dX C false r k) = k (.aR [])
 | .val v => rfl
 | @au.cond _ _ r => by simp only [dX]; rw [a7 C k r]; simp
 | .enter _ _ => by simp [dX]
 | .jQ _ _ _ => by simp [dX]
 | .new _ _ _ => by simp [dX]
 | .jz _ _ => by simp [dX]
 | .yield _ _ => by simp [dX]
 | .panic _ => by simp [dX]
 | .bad => by simp [dX]
@[simp] theorem av (C : cw) (v : AV) (k : AV -> Prop) : aw C (.val v) k = k v := rfl
@[simp] theorem fN (C : cw) (p : Prop) [Decidable p] (r : au) (k : AV -> Prop) : aw C (.cond p r) k = (p /\ aw C r k) := rfl
@[simp] theorem El (C : cw) (f : FuncId) (args : List AV) (k : AV -> Prop) : aw C (.enter f args) k = ∃ v, Pure C f args v /\ k v := rfl
theorem sb (C : cw) (k : AV -> Prop) : ∀ r : au, dX C true r k = aw C r k
 | .val v => rfl
 | @au.cond _ _ r => by simp only [dX, aw, sb C k r]; simp
 | .enter _ _ => by simp [dX, aw]
 | .jQ _ _ _ => by simp [dX, aw]
 | .new _ _ _ => by simp [dX, aw]
 | .jz _ _ => by simp [dX, aw]
 | .yield _ _ => by simp [dX, aw]
 | .panic _ => by simp [dX, aw]
 | .bad => by simp [dX, aw]
@[simp] theorem bl (C : cw) (k : AV -> Prop) (r : au) : dX C true r k = aw C r k := sb C k r
theorem oG (C : cw) (k : AV -> Prop) (r : au) (p : Prop) [Decidable p] : dX C (decide p) r k = ((p -> aw C r k) /\ (¬ p -> k (.aR []))) := by
 by_cases h : p <;> simp [h]
theorem ng (C : cw) (k : AV -> Prop) (r : au) (p : Prop) [Decidable p] : dX C (!decide p) r k = ((p -> k (.aR [])) /\ (¬ p -> aw C r k)) := by
 by_cases h : p <;> simp [h]
@[simp] theorem aA (b : Bool) (x y : AV) : aQ (.bool b) x y = .val (if b = true then x else y) := rfl
@[simp] theorem ite_bool (b x y : Bool) : (if b = true then AV.bool x else AV.bool y) = .bool (if b = true then x else y) := by split <;> rfl
section
variable (bt : BT) (l : Bool) (k : IntKind) (a b : Int) (s t : List UInt8)
@[simp] theorem aX : aj .eql bt l (.int k a) (.int k b) = .val (.bool (decide (a = b))) := by simp only [aj, if_true]; rfl
@[simp] theorem cM : aj .neq bt l (.int k a) (.int k b) = .val (.bool (!decide (a = b))) := by simp only [aj, if_true]; rfl
@[simp] theorem bg : aj .lss bt l (.int k a) (.int k b) = .val (.bool (decide (a < b))) := by simp only [aj, if_true]
@[simp] theorem fm : aj .leq bt l (.int k a) (.int k b) = .val (.bool (decide (a <= b))) := by simp only [aj, if_true]
@[simp] theorem dK : aj .gtr bt l (.int k a) (.int k b) = .val (.bool (decide (b < a))) := by simp only [aj, if_true, gt_iff_lt]
@[simp] theorem dT : aj .geq bt l (.int k a) (.int k b) = .val (.bool (decide (b <= a))) := by simp only [aj, if_true, ge_iff_le]
@[simp] theorem jH : aj .add bt l (.int k a) (.int k b) = gn k (a + b) := by simp only [aj, if_true]
@[simp] theorem dU : aj .sub bt l (.int k a) (.int k b) = gn k (a - b) := by simp only [aj, if_true]
@[simp] theorem Fc : aj .mul bt l (.int k a) (.int k b) = gn k (a * b) := by simp only [aj, if_true]
@[simp] theorem Xj : aj .quo bt l (.int k a) (.int k b) = .cond (b ≠ 0) (gn k (a.tdiv b)) := by simp only [aj, if_true]
@[simp] theorem Xk : aj .rem bt l (.int k a) (.int k b) = .cond (b ≠ 0) (.val (.int k (a.tmod b))) := by simp only [aj, if_true]
@[simp] theorem iB : aj .eql bt l (.str s) (.str t) = .val (.bool (decide (s = t))) := by
 show au.val (.bool (s == t)) = _
 rw [show (s == t) = decide (s = t) from lY.2 (by simp)]
@[simp] theorem jI : aj .neq bt l (.str s) (.str t) = .val (.bool (!decide (s = t))) := by
 show au.val (.bool (s != t)) = _
 rw [show (s != t) = !decide (s = t) from lY.2 (by simp)]
@[simp] theorem Xg : aj .add bt l (.str s) (.str t) = .cond (s.length + t.length <= 4294967296) (.val (.str (s ++ t))) := rfl
@[simp] theorem Uv (x y : Bool) (i p : Bool) (f : Option (List FK)) (sl : Bool) : aj .eql ⟨true, i, p, f, sl⟩ l (.bool x) (.bool y) = .val (.bool (x == y)) := by simp only [aj, if_true]
@[simp] theorem vE (x y : Bool) (i p : Bool) (f : Option (List FK)) (sl : Bool) : aj .neq ⟨true, i, p, f, sl⟩ l (.bool x) (.bool y) = .val (.bool (x != y)) := by simp only [aj, if_true]
@[simp] theorem Xh (x y : List AV) (i p q : Bool) (f : List FK) (sl : Bool) : aj .eql ⟨q, i, p, some f, sl⟩ l (.agg x) (.agg y) = sV .bool (mC f x y) := rfl
@[simp] theorem Xi (x y : List AV) (i p q : Bool) (f : List FK) (sl : Bool) : aj .neq ⟨q, i, p, some f, sl⟩ l (.agg x) (.agg y) = sV (fun r => .bool (!r)) (mC f x y) := rfl
@[simp] theorem aaa (f : Bool -> AV) (r : Bool) : sV f (some r) = .val (f r) := rfl
@[simp] theorem c8 (x : Bool) : fF .not (.bool x) = .val (.bool (!x)) := rfl
@[simp] theorem dC : gn .i64 a = .cond (u9 a) (.val (.int .i64 a)) := rfl
@[simp] theorem CX : gn .u8 a = .val (.int .u8 (IntKind.u8.wrap a)) := rfl
end
theorem aS {n : Int} (h1 : -9223372036854775808 <= n) (h2 : n <= 9223372036854775807) : u9 n := ⟨h1, h2⟩
section
variable (sz b o : Nat) (p v : AV) (U : St) (L l : List AV)
theorem qX {U : St} {b : Nat} {L : List AV} (h : U.box b = some L) (n o : Nat) : ao (some (false, n)) (.box b o) U = gg (L.drop o) := by simp [ao, jX, h]
theorem J4 {U : St} {b : Nat} {L : List AV} (h : U.box b = some L) (n o : Nat) : ao (some (true, n)) (.box b o) U = .cond (n <= (L.drop o).length) (.val (.agg ((L.drop o).take n))) := by simp [ao, jX, h]
@[simp] theorem rS : ao (some (false, sz)) (.ck L) U = gg L := rfl
@[simp] theorem HV : ao (some (true, sz)) (.ck L) U = .cond (sz <= L.length) (.val (.agg (L.take sz))) := rfl
@[simp] theorem dB (x : AV) : gg (x :: L) = .val x := rfl
theorem kr {U : St} {b : Nat} {L : List AV} (h : U.box b = some L) (t : Bool) (n o : Nat) (v : AV) : aL (some (t, n)) (.box b o) v U = .cond (v.cQ = true /\ (ay v).length = n /\ o + n <= L.length) (.jQ (.aR []) b (.box (aB L o (ay v)))) := by simp [aL, h]
@[simp] theorem dw : bF (.box b o) = .val (.box b o) := rfl
@[simp] theorem Cn : bF (.ck L) = .val (.ck L) := rfl
@[simp] theorem SQ (f : Nat) (x y : List AV) : bF (.func (.func f) x y) = .val (.func (.func f) x y) := rfl
@[simp] theorem aV (k : Nat) : ag (some k) (.box b o) = .val (.box b (o + k)) := rfl
@[simp] theorem dA (k : Nat) : ag (some k) (.ck L) = .val (.ck (L.drop k)) := rfl
@[simp] theorem Hg (k n : Nat) : rD (some (k, false, n)) (.agg L) = gg (L.drop k) := rfl
@[simp] theorem X5 (k n : Nat) : rD (some (k, true, n)) (.agg L) = .cond (k + n <= L.length) (.val (.agg ((L.drop k).take n))) := rfl
@[simp] theorem vp (e n : Nat) (c : iQ) (k : IntKind) (j : Int) (at_ : Option (Nat × TypeId × Nat)) : aF (some (e, sz)) at_ (.vec n c L) (.int k j) = .cond (0 <= j /\ j < n) (.val (.ck (L.drop (j.toNat * sz)))) := rfl
@[simp] theorem VM (e n z t : Nat) (k : IntKind) (j : Int) (at_ : Option (Nat × TypeId × Nat)) : aF (some (e, sz)) at_ (.ms b o n z t) (.int k j) = .cond (0 <= j /\ j < n /\ z = sz) (.val (.box b (o + j.toNat * sz))) := rfl
@[simp] theorem BN (s : List UInt8) (k : IntKind) (j : Int) (at_ : Option (Nat × TypeId × Nat)) (vt : Option (Bool × Nat)) : eE true at_ vt (.str s) (.int k j) = .cond (0 <= j /\ j < s.length) (.val (.int .u8 (s.getD j.toNat 0).toNat)) := by simp [eE]
@[simp] theorem ia (s : List UInt8) : bz (some true) (.str s) = .val (.int .i64 s.length) := rfl
@[simp] theorem o3 (n : Nat) (c : iQ) : bz (some false) (.vec n c L) = .val (.int .i64 n) := rfl
@[simp] theorem J0 (n z e : Nat) : bz (some false) (.ms b o n z e) = .val (.int .i64 n) := rfl
@[simp] theorem len_nil : bz (some false) .al = .val (.int .i64 0) := rfl
@[simp] theorem cz (k : Nat) : bq (.aR L) k = gg (L.drop k) := rfl
@[simp] theorem IN : ay (.agg L) = L := rfl
@[simp] theorem Bq (k : IntKind) (n : Int) : ay (.int k n) = [.int k n] := rfl
@[simp] theorem Br (s : List UInt8) : ay (.str s) = [.str s] := rfl
@[simp] theorem XZ (x : Bool) : ay (.bool x) = [.bool x] := rfl
@[simp] theorem YZ : ay (.box b o) = [.box b o] := rfl
@[simp] theorem Y0 (n : Nat) (c : iQ) : ay (.vec n c L) = [.vec n c L] := rfl
@[simp] theorem aag (n z e : Nat) : ay (.ms b o n z e) = [.ms b o n z e] := rfl
@[simp] theorem RT : ay .al = [.al] := rfl
@[simp] theorem Uy : ay .a8 = [.a8] := rfl
@[simp] theorem X1 (f : Go.Fn) (x y : List AV) : ay (.func f x y) = [.func f x y] := rfl
@[simp] theorem X0 (x y : List AV) : ay (.eR x y) = [.eR x y] := rfl
@[simp] theorem aaf (m : Nat) : ay (.mp m) = [.mp m] := rfl
@[simp] theorem OL : (AV.agg L).cQ = true := rfl
@[simp] theorem OM (k : IntKind) (n : Int) : (AV.int k n).cQ = true := rfl
@[simp] theorem ON (s : List UInt8) : (AV.str s).cQ = true := rfl
@[simp] theorem Z2 (x : Bool) : (AV.bool x).cQ = true := rfl
@[simp] theorem aaX : (AV.box b o).cQ = true := rfl
@[simp] theorem aaY (n : Nat) (c : iQ) : (AV.vec n c L).cQ = true := rfl
@[simp] theorem abD (n z e : Nat) : (AV.ms b o n z e).cQ = true := rfl
@[simp] theorem SP : AV.al.cQ = true := rfl
@[simp] theorem Xn : AV.a8.cQ = true := rfl
@[simp] theorem Z4 (f : Go.Fn) (x y : List AV) : (AV.func f x y).cQ = true := rfl
@[simp] theorem Z3 (x y : List AV) : (AV.eR x y).cQ = true := rfl
@[simp] theorem abC (m : Nat) : (AV.mp m).cQ = true := rfl
@[simp] theorem Bp (h : v.cQ = true) : fh v = .cond True (.cq (ay v)) := by simp [fh, h]
@[simp] theorem l8 (s : List UInt8) (sl : Option (TypeId × Nat)) (lo hi : Option AV) : dx true sl (.str s) lo hi = (match dc 0 lo, dc s.length hi with
 | some l, some h => .cond (0 <= l /\ l <= h /\ h <= s.length) (.val (.str ((s.take h.toNat).drop l.toNat)))
 | _, _ => .bad) := by
 simp only [dx]
 cases dc 0 lo <;> cases dc (s.length : Int) hi <;> rfl
@[simp] theorem eV (d : Int) : dc d none = some d := rfl
@[simp] theorem fD (d : Int) (k : IntKind) (n : Int) : dc d (some (.int k n)) = some n := rfl
@[simp] theorem sf (e n : Nat) (c : iQ) (lo hi : Option AV) (st : Bool) : dx st (some (e, sz)) (.vec n c L) lo hi = (match dc 0 lo, dc n hi with
 | some a, some b => .cond (0 <= a /\ a <= b /\ b <= n) (.val (.vec (b.toNat - a.toNat) (pn c hi) ((L.take (b.toNat * sz)).drop (a.toNat * sz))))
 | _, _ => .bad) := by
 simp only [dx]
 cases dc 0 lo <;> cases dc (n : Int) hi <;> rfl
@[simp] theorem abE (k : IntKind) (a b : Int) : yC (.int k a) (.int k b) = .val (.int k (if b > a then b else a)) := by simp [yC]
@[simp] theorem Gx (k : IntKind) (a b : Int) : sG (.int k a) (.int k b) = .val (.int k (if b < a then b else a)) := by simp [sG]
end
theorem ak.eq {R : cD -> St -> Prop} {x y : AV} {U : St} (h : R (.ret y) U) (e : x = y) : ak R x U := by subst e; exact ak.mk h
theorem Pure.go {C : cw} {f : FuncId} {args : List AV} {x : AV} {K : AV -> St -> Prop} {Kp : AV -> St -> Prop} {U : St} (h : Pure C f args x) (hk : K x U) : af C f args U (ax K Kp) := h U _ hk
end Go.Rip
