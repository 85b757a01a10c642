/- Lemmas for the proof: no conditions. -/
import Derived.Test.YtnfpmiiopiinbaaGreatDoorRipZz
import Derived.Test.YtnfpmiiopiinbaaGreatDoorRipB
set_option linter.unusedVariables false
set_option linter.unusedSimpArgs false
set_option linter.loopingSimpArgs false
namespace Go.Rip
open Go.RowKit
mutual
def flat : AV -> Bool
 | .bool _ | .int _ _ | .str _ | .bj | .ak | .kx | .jt | .dq => true
 | .iface _ v => flat v
 | .agg l => Be l
 | .aU l => Be l
 | _ => false
def Be : List AV -> Bool
 | [] => true
 | x :: xs => flat x && Be xs
end
mutual
theorem aB.flat {g g' : Gh} : ∀ (x : AV) (v : Value), flat x = true -> aB g x v -> aB g' x v
 | .bool _, _, _, hr => hr
 | .int _ _, _, _, hr => hr
 | .str _, _, _, hr => hr
 | .bj, _, _, hr => hr
 | .ak, _, _, hr => hr
 | .kx, _, _, hr => hr
 | .jt, _, _, hr => hr
 | .dq, _, _, hr => hr
 | .iface t x, v, h, hr => by
   simp only [Rip.flat] at h
   simp only [aB] at hr ⊢
   obtain ⟨u, h1, h2⟩ := hr
   exact ⟨u, h1, aB.flat x u h h2⟩
 | .agg l, v, h, hr => by
   simp only [Rip.flat] at h
   simp only [aB] at hr ⊢
   obtain ⟨vs, h1, h2, h3⟩ := hr
   exact ⟨vs, h1, h2, aN.flat l _ h h3⟩
 | .aU l, v, h, hr => by
   simp only [Rip.flat] at h
   simp only [aB] at hr ⊢
   obtain ⟨vs, h1, h3⟩ := hr
   exact ⟨vs, h1, aN.flat l _ h h3⟩
theorem aN.flat {g g' : Gh} : ∀ (l : List AV) (vs : List Value), Be l = true -> aN g l vs -> aN g' l vs
 | [], vs, _, h => by cases vs <;> simp_all [aN]
 | x :: xs, vs, h, hr => by
   simp only [Be, cF] at h
   simp only [aN] at hr ⊢
   obtain ⟨v, vs', h1, h2, h3⟩ := hr
   exact ⟨v, vs', h1, aB.flat x v h.1 h2, aN.flat xs vs' h.2 h3⟩
end
theorem ad.Ve {C : cV} {f : Nat} {args args0 : List AV} {U : St} {R : cS -> St -> Prop} {x : AV} (d : Nat) (Bn : ∀ i, closed (C.xH i) = true)
 (hw : ∀ g vs, aN g (args.map (resolve d U)) vs -> aN g args0 vs) (hargs : cL args0 = true) (hx : flat x = true) (h : Pure C f args0 x) (hR : R (.ret x) U) : ad C f args U R := by
 intro g w vs hs hG ha
 have S9 := hs.BJ
 let g0 : Gh := { base := w.heap.size, w0 := w, place := fun _ => none, cB := (g.all w).cB, bZ := (g.all w).bZ, res := fun _ => false }
 have tJ : br g0 (bX ⟨.e, 0⟩) w := {
  below := Below.refl _ _
  le := cG _
  cB := fun q o u hu => vK hs q o u hu
  bZ := fun q es c hu => ug hs q es c hu
  live := fun b x hb => by cases hb
  apart := fun b b' x x' p p' hb => by cases hb
  res := fun r hr => by cases hr
  fin := ⟨0, fun n hn => by cases hn; rfl, fun _ _ => rfl⟩ }
 have Lv : gZ C g0 := ⟨fun i => aB.closed (g := g) (g' := g0) (fun _ _ _ h => S9.cB _ _ _ h) (fun _ _ h => S9.bZ _ _ h) _ _ (Bn i) (hG.1 i), fun i cs hi => by
  obtain ⟨k1, t, fr, k2⟩ := hG.2 i cs hi
  refine ⟨Nat.lt_of_lt_of_le k1 hs.le, t, fr, ?_⟩
  show w.heap[i]? = _
  rw [hs.below.block i k1]; exact k2⟩
 have XP : aN g0 args0 vs := aN.closed (g := g.all w) (g' := g0) (fun _ _ _ h => h) (fun _ _ h => h) _ _ hargs (hw _ _ (AA (fun x v _ hr => zS hs d x v hr) ha))
 refine (h (bX ⟨.e, 0⟩) (fun r _ => r = .ret x) rfl g0 w vs tJ Lv XP).mono ?_
 rintro e w' hp
 cases e with
 | panicked ch => obtain ⟨g', af, y, v, _, _, _, _, hz⟩ := hp; cases hz
 | outgrown => exact hp.elim
 | returned v =>
   obtain ⟨g', af, y, h1, h2, h3, hz⟩ := hp
   cases hz
   have sV := h2.BJ
   have hle := h1.trans sV
   have vR : Below w.heap.size w w' := by
    have := h2.below
    rw [h1.base, h1.w0] at this
    exact this
   let gF : Gh := { base := g.base, w0 := g.w0, place := g.place, cB := g.cB, bZ := g.bZ, res := g.res }
   have FB : Gh.Le g gF := ⟨rfl, rfl, fun _ _ h => h, fun b o u hu => hu, fun b u hu => hu, fun _ h => h, fun _ _ _ => rfl, fun _ _ => rfl⟩
   refine ⟨gF, U, x, FB, ?_, aB.flat x v hx h3, hR⟩
   exact {
    below := hs.below.trans (vR.mono hs.le)
    le := Nat.le_trans hs.le vR.size
    cB := fun q o u hu => vK h2 q o u (hle.cB _ _ _ (S9.cB _ _ _ hu))
    bZ := fun q es c hu => ug h2 q es c (hle.bZ _ _ (S9.bZ _ _ hu))
    live := fun b l hb => by
     obtain ⟨p, k1, k2, k3⟩ := hs.live b l hb
     have aL := k3.lt
     exact ⟨p, k1, k2, k3.frame FB.r (vR.block _ aL) (fun o => rfl) rfl⟩
    apart := hs.apart
    res := fun r hr => by
     obtain ⟨k1, k2⟩ := hs.res r hr
     exact ⟨k1, by rw [vR.block _ (kz.1 k2).1]; exact k2⟩
    fin := hs.fin }
inductive Wk : List AV -> List AV -> Prop
 | nil : Wk [] []
 | bU (x : AV) {l l' : List AV} : Wk l l' -> Wk (x :: l) (x :: l')
 | drop (x : AV) {l l' : List AV} : Wk l l' -> Wk (.any :: l) (x :: l')
theorem Wk.rep {g : Gh} {l l' : List AV} (h : Wk l l') : ∀ {vs : List Value}, aN g l' vs -> aN g l vs := by
 induction h with
 | nil => exact fun h => h
 | bU x _ ih =>
   intro vs h
   simp only [aN] at h ⊢
   obtain ⟨u, us, h1, h2, h3⟩ := h
   exact ⟨u, us, h1, h2, ih h3⟩
 | drop x _ ih =>
   intro vs h
   simp only [aN] at h ⊢
   obtain ⟨u, us, h1, h2, h3⟩ := h
   exact ⟨u, us, h1, by simp only [aB], ih h3⟩
theorem Wk.cP {g : Gh} {l l' r : List AV} {vs : List Value} (h : Wk l l') (hr : aN g (.cP l' :: r) vs) : aN g (.cP l :: r) vs := by
 simp only [aN, aB] at hr ⊢
 obtain ⟨u, us, h1, ⟨aO, off, ws, h2, h3, h4⟩, h5⟩ := hr
 exact ⟨u, us, h1, ⟨aO, off, ws, h2, h3, h.rep h4⟩, h5⟩
theorem Wk.any : ∀ (l : List AV), Wk (l.map fun _ => .any) l
 | [] => .nil
 | x :: l => .drop x (Wk.any l)
end Go.Rip
namespace Go.Rip
open Go.RowKit
def av (vt : Option (Bool × Nat)) (p : AV) (U : St) : aw :=
 match vt, lP U p with
 | some (true, sz), some l => .cond (sz <= l.length) (.val (.agg (l.take sz)))
 | some (false, _), some l => gP l
 | _, _ => .bad
def aD (vt : Option (Bool × Nat)) (p v : AV) (U : St) : aw :=
 match vt, p with
 | some (_, sz), .box b off => match U.box b with
   | some l => .cond (v.cN = true /\ (aC v).length = sz /\ off + sz <= l.length) (.kW (.aU []) b (.box (az l off (aC v))))
   | none => .bad
 | _, _ => .bad
def VC (t : TypeId) (z : Option (List AV)) : aw :=
 match z with
 | some l => EW t l
 | none => .bad
def bE (st : Option (List (Nat × Nat))) (z : Option (List AV)) (at_ : Option (Nat × TypeId × Nat)) (parts : List (Nat × AV)) : aw :=
 match st, z with
 | some pl, some z => fE (fun i => pl[i]?) parts z fun z => .val (.agg z)
 | none, some z => match at_ with
   | some (_, _, sz) => fE (fun i => some (i * sz, sz)) parts z fun z => .val (.agg z)
   | none => .bad
 | _, _ => .bad
def aA (sl : Option (TypeId × Nat)) (z : Option (List AV)) (n : Nat) (mu : Bool) (parts : List (Nat × AV)) : aw :=
 match sl with
 | some (e, sz) => match z with
   | some z => .cond (n * sz <= 16777216) (fE (fun i => some (i * sz, sz)) parts (bB n z) fun cs => .cond (cs.length = n * sz) (if mu then .om n sz e none cs else .val (.vec n .full cs)))
   | none => .bad
 | none => .bad
def jO (mt : Option (FK × TypeId)) (m k v : AV) (U : St) : aw :=
 match mt, m with
 | some (fk, _), .mp id => match U.mp id with
   | some (ks, vs) => match lH fk k ks 0, p6 fk k with
     | some none, true => .kW (.aU []) id (.mp (gw k v ks vs).1 (gw k v ks vs).2)
     | some (some i), true => .kW (.aU []) id (.mp ks (vs.set i v))
     | _, _ => .bad
   | none => .bad
 | _, _ => .bad
def iB (mt : Option (FK × TypeId)) (z : Option AV) (m k : AV) (ok : Bool) (U : St) : aw :=
 match mt, mq U m with
 | some (fk, e), some (ks, vs) => match z, p6 fk k with
   | some z, true => p8 fk k z ok ks vs
   | _, _ => .bad
 | _, _ => .bad
def se (it : Option IntKind) (is : Bool) (ss bs : Bool) (x : AV) : aw :=
 match it, is, x with
 | some .i64, true, .int _ n => .cond (tz n) (.val (.int .i64 n))
 | some k, true, .int _ n => .val (.int k (k.wrap n))
 | none, true, .str s => if ss = true then .val (.str s) else
   if bs = true then .cond (s.length <= 4294967296) (.val (.vec s.length .gC (s.map fun b => .int .u8 b.toNat))) else .bad
 | _, _, _ => .bad
def fW (st : Bool) (sl : Option (TypeId × Nat)) (x : AV) (lo hi : Option AV) : aw :=
 match x with
 | .str s => match st, dS 0 lo, dS s.length hi with
   | true, some l, some h => .cond (0 <= l /\ l <= h /\ h <= s.length) (.val (.str ((s.take h.toNat).drop l.toNat)))
   | _, _, _ => .bad
 | .vec n cap l => match sl, dS 0 lo, dS n hi with
   | some (_, sz), some a, some b => .cond (0 <= a /\ a <= b /\ b <= n) (.val (.vec (b.toNat - a.toNat) (vL cap hi) ((l.take (b.toNat * sz)).drop (a.toNat * sz))))
   | _, _, _ => .bad
 | .ak => match sl, dS 0 lo, dS 0 hi with
   | some (_, _), some a, some b => .cond (a = 0 /\ b = 0) (.val .ak)
   | _, _, _ => .bad
 | .ms b off n iC e => match sl, dS 0 lo, dS n hi with
   | some (_, sz), some a, some h => .cond (0 <= a /\ a <= h /\ h <= n /\ (a < n \/ a = 0) /\ iC = sz) (.val (.ms b (off + a.toNat * sz) (h.toNat - a.toNat) iC e))
   | _, _, _ => .bad
 | _ => .bad
def ag (ft : Option Nat) (p : AV) : aw :=
 match ft, p with
 | some o, .box b off => .val (.box b (off + o))
 | some o, .cP l => .val (.cP (l.drop o))
 | _, _ => .bad
def rA (fv : Option (Nat × Bool × Nat)) (x : AV) : aw :=
 match fv, x with
 | some (o, true, n), .agg l => .cond (o + n <= l.length) (.val (.agg ((l.drop o).take n)))
 | some (o, false, _), .agg l => gP (l.drop o)
 | _, _ => .bad
def Xi (at_ : Option (Nat × TypeId × Nat)) (x i : AV) : aw :=
 match at_, x, i with
 | some (n, _, sz), .cP l, .int _ j => .cond (0 <= j /\ j < n) (.val (.cP (l.drop (j.toNat * sz))))
 | some (n, _, sz), .box b off, .int _ j => .cond (0 <= j /\ j < n) (.val (.box b (off + j.toNat * sz)))
 | _, _, _ => .bad
def aH (sl : Option (TypeId × Nat)) (at_ : Option (Nat × TypeId × Nat)) (x i : AV) : aw :=
 match sl, x, i with
 | none, x, i => Xi at_ x i
 | some (_, sz), .vec n _ l, .int _ j => .cond (0 <= j /\ j < n) (.val (.cP (l.drop (j.toNat * sz))))
 | some (_, sz), .ms b off n iC _, .int _ j => .cond (0 <= j /\ j < n /\ iC = sz) (.val (.box b (off + j.toNat * sz)))
 | _, _, _ => .bad
def dU (st : Bool) (at_ : Option (Nat × TypeId × Nat)) (vt : Option (Bool × Nat)) (x i : AV) : aw :=
 match x, i with
 | .str s, .int _ j => if st = true then .cond (0 <= j /\ j < s.length) (.val (.int .u8 (s.getD j.toNat 0).toNat)) else .bad
 | .agg l, .int _ j => match at_ with
   | some (n, e, sz) => match vt with
     | some (false, _) => .cond (0 <= j /\ j < n) (gP (l.drop (j.toNat * sz)))
     | some (true, k) => .cond (0 <= j /\ j < n /\ k = sz /\ j.toNat * sz + sz <= l.length) (.val (.agg ((l.drop (j.toNat * sz)).take sz)))
     | none => .bad
   | none => .bad
 | _, _ => .bad
def wh (b : Bool) (t : TypeId) (x : AV) : aw := if b = true then .val (.iface t x) else .bad
def yr (mt : Option (FK × TypeId)) (m : AV) : aw :=
 match mt, m with
 | some _, .fS ks vs => .new .it none (.iter (ks.zip vs) none)
 | _, _ => .bad
def uJ (z : Option AV) (x : AV) (t : TypeId) (ok : Bool) : aw :=
 match z, x with
 | some z, .iface u v => if u = t then .val (if ok then .aU [v, .bool true] else v) else if ok then .val (.aU [z, .bool false]) else .bad
 | some z, .dq => if ok then .val (.aU [z, .bool false]) else .bad
 | _, _ => .bad
def sh (sl : Option (TypeId × Nat)) (z : Option (List AV)) (mu : Bool) (l c : AV) : aw :=
 match sl, l, c with
 | some (e, sz), .int _ l, .int _ c => match z with
   | some z => .cond (0 <= l /\ l = c /\ c <= 65536) (if mu then .om l.toNat sz e none (bB l.toNat z) else .mP l.toNat (bB l.toNat z) none ⟨l.toNat, e, sz⟩)
   | none => .bad
 | _, _, _ => .bad
def AZ (sl : Option (TypeId × Nat)) (z : Option (List AV)) (x : AV) (U : St) : aw :=
 match sl, x with
 | some (e, sz), .ms b off n iC _ => match U.box b, z with
   | some l, some z => .cond (iC = sz /\ off + n * sz <= l.length) (.kW (.aU []) b (.box (az l off (bB n z))))
   | _, _ => .bad
 | _, _ => .bad
def bD (lt : Option Bool) (x : AV) : aw :=
 match lt, x with
 | some true, .str s => .val (.int .i64 s.length)
 | some false, .vec n _ _ => .val (.int .i64 n)
 | some false, .ms _ _ n _ _ => .val (.int .i64 n)
 | some false, .ak => .val (.int .i64 0)
 | _, _ => .bad
def dc (ap : Option (TypeId × Nat)) (mu : Bool) (s y : AV) (U : St) : aw :=
 match ap, qp U y with
 | some (e, sz), some (m, l2) =>
   .cond (l2.length = m * sz) (match s with
   | .ak => if m = 0 then .val .ak else .cond (m <= 4294967296) (if mu then .om m sz e none l2 else .mP m l2 none ⟨m, e, sz⟩)
   | .vec n .full l => if m = 0 then .val s else .cond (l.length = n * sz /\ n + m <= 4294967296) (.mP (n + m) (l ++ l2) none ⟨n + m, e, sz⟩)
   | .vec n (.own τ) l => .cond (U.tok τ = some ⟨n, e, sz⟩ /\ l.length = n * sz /\ n + m <= 4294967296) (.mP (n + m) (l ++ l2) (some τ) ⟨n + m, e, sz⟩)
   | .ms b off n iC e' => match U.box b with
     | some l => .cond (off = 0 /\ iC = sz /\ e' = e /\ n * sz <= l.length /\ n + m <= 4294967296) (.om (n + m) sz e (some b) (l.take (n * sz) ++ l2))
     | none => .bad
   | _ => .bad)
 | _, _ => .bad
structure BT where
 b : Bool
 i : Bool
 p : Bool
 f : Option (List FK)
def Xp (P : Program) (t : TypeId) : BT := ⟨vd P t, kn P t, lV P t, JG P t⟩
def H0 (f : Option (List FK)) (a b : List AV) : Option Bool :=
 match f with
 | some ks => nG ks a b
 | none => none
def aq (op : BinOp) (bt : BT) (lit : Bool) (x y : AV) : aw :=
 match op, x, y with
 | .eql, .dq, .dq => if bt.i = true /\ lit = true then .val (.bool true) else .bad
 | .neq, .dq, .dq => if bt.i = true /\ lit = true then .val (.bool false) else .bad
 | .add, .int k a, .int k' b => if k = k' then ir k (a + b) else .bad
 | .sub, .int k a, .int k' b => if k = k' then ir k (a - b) else .bad
 | .mul, .int k a, .int k' b => if k = k' then ir k (a * b) else .bad
 | .quo, .int k a, .int k' b => if k = k' then .cond (b ≠ 0) (ir k (a.tdiv b)) else .bad
 | .rem, .int k a, .int k' b => if k = k' then .cond (b ≠ 0) (.val (.int k (a.tmod b))) else .bad
 | .and, .int k a, .int k' b => if k = k' then .val (.int k (k.wrap (BitVec.ofInt k.bits a &&& BitVec.ofInt k.bits b).toNat)) else .bad
 | .or, .int k a, .int k' b => if k = k' then .val (.int k (k.wrap (BitVec.ofInt k.bits a ||| BitVec.ofInt k.bits b).toNat)) else .bad
 | .eql, .int k a, .int k' b => if k = k' then .val (.bool (a == b)) else .bad
 | .neq, .int k a, .int k' b => if k = k' then .val (.bool (a != b)) else .bad
 | .lss, .int k a, .int k' b => if k = k' then .val (.bool (decide (a < b))) else .bad
 | .leq, .int k a, .int k' b => if k = k' then .val (.bool (decide (a <= b))) else .bad
 | .gtr, .int k a, .int k' b => if k = k' then .val (.bool (decide (a > b))) else .bad
 | .geq, .int k a, .int k' b => if k = k' then .val (.bool (decide (a >= b))) else .bad
 | .eql, .str a, .str b => .val (.bool (a == b))
 | .neq, .str a, .str b => .val (.bool (a != b))
 | .add, .str a, .str b => .cond (a.length + b.length <= 4294967296) (.val (.str (a ++ b)))
 | .eql, .bool a, .bool b => if bt.b = true then .val (.bool (a == b)) else .bad
 | .neq, .bool a, .bool b => if bt.b = true then .val (.bool (a != b)) else .bad
 | .eql, .agg a, .agg b => tp .bool (H0 bt.f a b)
 | .neq, .agg a, .agg b => tp (fun r => .bool (!r)) (H0 bt.f a b)
 | .eql, .iface _ _, .dq => if bt.i = true then .val (.bool false) else .bad
 | .neq, .iface _ _, .dq => if bt.i = true then .val (.bool true) else .bad
 | .eql, .bj, .bj => if bt.p = true then .val (.bool true) else .bad
 | .eql, .box _ _, .bj => if bt.p = true then .val (.bool false) else .bad
 | .neq, .bj, .bj => if bt.p = true then .val (.bool false) else .bad
 | .neq, .box _ _, .bj => if bt.p = true then .val (.bool true) else .bad
 | .eql, .cP _, .bj => if bt.p = true then .val (.bool false) else .bad
 | .neq, .cP _, .bj => if bt.p = true then .val (.bool true) else .bad
 | _, _, _ => .bad
theorem Uz (P : Program) (op : BinOp) (t : TypeId) (lit : Bool) (x y : AV) : aq op (Xp P t) lit x y = EZ P op t lit x y := by
 unfold aq EZ Jr
 cases op <;> cases x <;> cases y <;> rfl
def vI (P : Program) (t : TypeId) : Option (List AV) := match eO P t with
 | some (e, _) => pa P e
 | none => none
def SN (P : Program) (t : TypeId) : Option (Bool × Nat) := match uh P t with
 | some (_, e, _) => nu P e
 | none => none
def Qk (P : Program) (t : TypeId) : Option AV := match p9 P t with
 | some (_, e) => zeroV P e
 | none => none
def Qn (gt : Option (TypeId × Nat × List AV)) (ap : Option (TypeId × Nat)) (mu : Bool) (s y : AV) (U : St) : aw :=
 match gt with
 | some q => Ev q mu s y
 | none => dc ap mu s y U
def Jv (C : cV) (mu : Bool) (c : Call) (ρ : Env) (U : St) : aw :=
 match c.callee, c.argTypes.toList, c.args.toList with
 | .value (.func f), _, args => if hU C.P f = true then .enter f (args.map (ρ.ev C)) else .bad
 | .value f, _, args => lz C.P (ρ.ev C f) (args.map (ρ.ev C))
 | .builtin .len, [t], [x] => bD (Kb C.P t) (ρ.ev C x)
 | .builtin .append, [t, u], [s, y] => Qn (Bf C.P t u) (Jn C.P t u) mu (ρ.ev C s) (ρ.ev C y) U
 | .builtin .cap, [t], [x] => Fa (eO C.P t) (ρ.ev C x)
 | .builtin .min, _, [x, y] => ux (ρ.ev C x) (ρ.ev C y)
 | .builtin .max, _, [x, y] => wi (ρ.ev C x) (ρ.ev C y)
 | .builtin .clear, [t], [x] => AZ (eO C.P t) (vI C.P t) (ρ.ev C x) U
 | _, _, _ => .bad
def vj (C : cV) (mu : Bool) (o : Op) (ρ : Env) (U : St) : aw :=
 match o with
 | .move x | .assign x => .val (ρ.ev C x)
 | .pick c a b => aY (ρ.ev C c) (ρ.ev C a) (ρ.ev C b)
 | .alloc t => VC t (pa C.P t)
 | .box _ x => jb (ρ.ev C x)
 | .build t parts => bE (zj C.P t) (pa C.P t) (uh C.P t) (lQ C ρ parts)
 | .buildSlice t n parts => aA (eO C.P t) (vI C.P t) n mu (lQ C ρ parts)
 | .insert t m k v | .mapUpdate t m k v => jO (p9 C.P t) (ρ.ev C m) (ρ.ev C k) (ρ.ev C v) U
 | .load t a => av (nu C.P t) (ρ.ev C a) U
 | .store t a v => aD (nu C.P t) (ρ.ev C a) (ρ.ev C v) U
 | .nilCheck x => aI (ρ.ev C x)
 | .binOp op t x y _ => aq op (Xp C.P t) (isLit x || isLit y) (ρ.ev C x) (ρ.ev C y)
 | .unOp op _ x => fZ op (ρ.ev C x)
 | .convert s d x => se (J1 C.P d) (C.P.underlying s).isSome (mN C.P d && mN C.P s) (wa C.P d && mN C.P s) (ρ.ev C x)
 | .makeInterface t x => wh (yd C.P t) t (ρ.ev C x)
 | .makeFunc fn first cap => .val (.func fn (first.toList.map (ρ.ev C)) (cap.toList.map (ρ.ev C)))
 | .makeMap _ none => .EC
 | .slice t x lo hi none => fW (mN C.P t) (eO C.P t) (ρ.ev C x) (lo.map (ρ.ev C)) (hi.map (ρ.ev C))
 | .fieldAddr s x f => ag (xE C.P s f) (ρ.ev C x)
 | .field s x f => rA (y5 C.P s f) (ρ.ev C x)
 | .indexAddr t x i => aH (eO C.P t) (uh C.P t) (ρ.ev C x) (ρ.ev C i)
 | .index t x i => dU (mN C.P t) (uh C.P t) (SN C.P t) (ρ.ev C x) (ρ.ev C i)
 | .lookup t m k ok => iB (p9 C.P t) (Qk C.P t) (ρ.ev C m) (ρ.ev C k) ok U
 | .extract t i => aX (ρ.ev C t) i
 | .panic x => th (ρ.ev C x)
 | .range t m => yr (p9 C.P t) (ρ.ev C m)
 | .typeAssert x _ t ok => uJ (yY C.P t) (ρ.ev C x) t ok
 | .makeSlice t l c => sh (eO C.P t) (vI C.P t) mu (ρ.ev C l) (ρ.ev C c)
 | .next i false => si (ρ.ev C i) U
 | .entry i => oO (ρ.ev C i) U
 | .call c => Jv C mu c ρ U
 | _ => .bad
theorem Qq (C : cV) (mu : Bool) (c : Call) (ρ : Env) (U : St) : Jv C mu c ρ U = y1 C mu c ρ U := by
 unfold Jv y1
 obtain ⟨callee, ⟨args⟩, ⟨Uq⟩⟩ := c
 cases callee with
 | value f =>
   cases f <;> simp only [lz, Env.ev, oJ, mB]
 | invoke r m => rfl
 | builtin b =>
   cases b
   case clear =>
    dsimp only
    rcases Uq with _ | ⟨t, _ | ⟨u, _ | _⟩⟩ <;> rcases args with _ | ⟨x, _ | ⟨y, _ | _⟩⟩ <;> try rfl
    simp only [AZ, xC, vI]
    generalize ρ.ev C x = y
    cases h : eO C.P t with
    | none => rfl
    | some es => (cases es; cases y <;> rfl)
   all_goals first | rfl | (dsimp only; rcases Uq with _ | ⟨t, _ | ⟨u, _ | _⟩⟩ <;> rcases args with _ | ⟨x, _ | ⟨y, _ | _⟩⟩ <;> rfl)
theorem tg (C : cV) (mu : Bool) (o : Op) (ρ : Env) (U : St) : vj C mu o ρ U = jh C mu o ρ U := by
 cases o with
 | binOp op t x y yt => exact Uz _ _ _ _ _ _
 | call c => exact Qq _ _ _ _ _
 | buildSlice t n parts =>
   simp only [vj, jh, aA, ra, vI]
   cases h : eO C.P t with
   | none => rfl
   | some es => (cases es; rfl)
 | index t x i =>
   simp only [vj, jh, dU, BE, SN]
   generalize ρ.ev C x = y
   generalize ρ.ev C i = z
   cases h : uh C.P t with
   | none => cases y <;> rfl
   | some es => (cases es; cases y <;> cases z <;> rfl)
 | lookup t m k ok =>
   simp only [vj, jh, iB, ve, Qk]
   generalize mq U (ρ.ev C m) = y
   cases h : p9 C.P t with
   | none => rfl
   | some es => (cases es; cases y <;> rfl)
 | makeSlice t l c =>
   simp only [vj, jh, sh, sg, vI]
   generalize ρ.ev C l = y
   generalize ρ.ev C c = z
   cases h : eO C.P t with
   | none => rfl
   | some es => (cases es; cases y <;> cases z <;> rfl)
 | convert s d x =>
   simp only [vj, jh, se, Et, cF]
   rfl
 | makeMap t r => cases r <;> rfl
 | slice t x lo hi m => cases m <;> rfl
 | next i b => cases b <;> rfl
 | _ => rfl
end Go.Rip
namespace Go.Rip
open Go.RowKit
def Fn : Nat -> Type
 | 0 => St -> Prop
 | n + 1 => AV -> Fn n
namespace Fn
def app : (n : Nat) -> Fn n -> List AV -> St -> Prop
 | 0, f, _, U => f U
 | n + 1, f, x :: xs, U => app n (f x) xs U
 | n + 1, f, [], U => app n (f .any) [] U
def lam : (n : Nat) -> (List AV -> St -> Prop) -> Fn n
 | 0, F => fun U => F [] U
 | n + 1, F => fun x => lam n (fun xs U => F (x :: xs) U)
theorem pw : ∀ (n : Nat) (F : List AV -> St -> Prop) (xs : List AV) (U : St), xs.length = n -> app n (lam n F) xs U = F xs U
 | 0, F, [], U, _ => rfl
 | n + 1, F, x :: xs, U, h => pw n (fun xs U => F (x :: xs) U) xs U (by simpa using h)
 | 0, F, _ :: _, U, h => by simp at h
 | n + 1, F, [], U, h => by simp at h
def imp : (n : Nat) -> Fn n -> Fn n -> Prop
 | 0, f, g => ∀ U, f U -> g U
 | n + 1, f, g => ∀ x, imp n (f x) (g x)
theorem It : ∀ {n : Nat} {f g : Fn n}, imp n f g -> ∀ (xs : List AV) (U : St), xs.length = n -> app n f xs U -> app n g xs U
 | 0, f, g, h, xs, U, _, hf => h U hf
 | n + 1, f, g, h, x :: xs, U, hl, hf => It (h x) xs U (by simpa using hl) hf
 | n + 1, f, g, h, [], U, hl, hf => by simp at hl
theorem HR : ∀ {n : Nat} {f g : Fn n}, (∀ (xs : List AV) (U : St), xs.length = n -> app n f xs U -> app n g xs U) -> imp n f g
 | 0, f, g, h => fun U hf => h [] U rfl hf
 | n + 1, f, g, h => fun x => HR fun xs U hl hf => h (x :: xs) U (by simpa using hl) hf
end Fn
def BM : List Nat -> List AV -> Nat -> AV
 | s :: ss, x :: xs, t => cond (Nat.beq t s) x (BM ss xs t)
 | _, _, _ => .any
def CD (live : List Nat) (vs : List AV) : Env := ⟨BM live vs⟩
theorem DT (f : Nat -> AV) (t : Nat) : ∀ live : List Nat, BM live (live.map f) t = f t \/ BM live (live.map f) t = .any
 | [] => .inr rfl
 | s :: ss => by
   simp only [et, BM]
   cases h : Nat.beq t s with
   | true => have := eT h; subst this; exact .inl rfl
   | false => exact DT f t ss
theorem Dm (ρ : Env) (live : List Nat) (t : Nat) : (CD live (live.map ρ.get)).get t = ρ.get t \/ (CD live (live.map ρ.get)).get t = .any := DT ρ.get t live
section
variable {C : cV} {nt : Nat} {ro : Ro} {U : St} {ρ : Env}
theorem bO.Jh {c : Code} {Q : Ex -> Env -> St -> Prop} {dV : Env} (h : bO C nt ro c Q dV U) (hw : ∀ t, dV.get t = ρ.get t \/ dV.get t = .any) : bO C nt ro c Q ρ U :=
 fun g w a fr h1 h2 h3 h4 h5 => h g w a fr h1 h2 (fun t => by
  rcases hw t with e | e
  · rw [e]; exact h3 t
  · rw [e]; simp only [aB]) h4 h5
end
structure Qx where
 n : Env -> St -> Prop
 e : Nat -> Env -> St -> Prop
 r : Env -> St -> Prop
 p : AV -> St -> Prop
def Qx.q (Q : Qx) : Ex -> Env -> St -> Prop
 | .normal, ρ, U => Q.n ρ U
 | .exit i, ρ, U => Q.e i ρ U
 | .ret, ρ, U => Q.r ρ U
 | .panic x, _, U => Q.p x U
def aaF (ops : Array Oper) (j : Nat) : Option Nat := (ops[j]?).bind (·.dst)
def au (v : AV) (want : Bool) : AV := match v with
 | .bool b => .bool (b == want)
 | .aU [] => .bool false
 | _ => .any
def Fs (ops : Array Oper) (ρ : Env) (jw : Nat × Bool) : AV := match aaF ops jw.1 with
 | some d => au (ρ.get d) jw.2
 | none => .any
theorem Ft (ops : Array Oper) (ρ : Env) (jw : Nat × Bool) : hZ ops ρ (some jw) = Fs ops ρ jw := rfl
def C8 (b : Bool) (v : AV) : AV := match b with
 | true => v
 | false => .aU []
def eC (C : cV) (b : Bool) : aw -> (AV -> Prop) -> Prop
 | .val v, k => k (C8 b v)
 | @aw.cond p _ r, k => (b = true -> p) /\ eC C b r k
 | .enter f args, k => ∃ v, (b = true -> Pure C f args v) /\ k (C8 b v)
 | _, k => b = false /\ k (.aU [])
def ae (C : cV) (gv : AV) (r : aw) (k : AV -> Prop) : Prop := match gv with
 | .bool b => eC C b r k
 | _ => False
theorem zP {C : cV} : ∀ (r : aw) {k : AV -> Prop}, eC C true r k -> ∃ v, r.yv C v /\ k v
 | .val v, k, h => ⟨v, rfl, h⟩
 | @aw.cond _ _ r, k, h => let ⟨v, h1, h2⟩ := zP r h.2; ⟨v, ⟨h.1 rfl, h1⟩, h2⟩
 | .enter _ _, k, h => let ⟨v, h1, h2⟩ := h; ⟨v, h1 rfl, h2⟩
 | .kW _ _ _, _, h => by cases h.1
 | .new _ _ _, _, h => by cases h.1
 | .kP _ _, _, h => by cases h.1
 | .yield _ _, _, h => by cases h.1
 | .panic _, _, h => by cases h.1
 | .bad, _, h => by cases h.1
theorem yn {C : cV} : ∀ (r : aw) {k : AV -> Prop}, eC C false r k -> k (.aU [])
 | .val v, k, h => h
 | @aw.cond _ _ r, k, h => yn r h.2
 | .enter _ _, k, h => let ⟨v, h1, h2⟩ := h; h2
 | .kW _ _ _, _, h => h.2
 | .new _ _ _, _, h => h.2
 | .kP _ _, _, h => h.2
 | .yield _ _, _, h => h.2
 | .panic _, _, h => h.2
 | .bad, _, h => h.2
theorem yo {C : cV} {gv : AV} {r : aw} {k : AV -> Prop} (h : ae C gv r k) : (gv = .bool true /\ ∃ v, r.yv C v /\ k v) \/ (gv = .bool false /\ k (.aU [])) := by
 cases gv <;> simp only [ae] at h
 rename_i b
 cases b
 · exact .inr ⟨rfl, yn r h⟩
 · exact .inl ⟨rfl, zP r h⟩
def Y1 (pf : List Nat) (o : Op) : Bool := match o with
 | .call c => match c.callee with
   | .value (.func f) => pf.any fun g => Nat.beq g f
   | .value _ => false
   | _ => quiet o
 | o => quiet o
def FY (C : cV) (o : Op) (ρ : Env) : Option AV := match o with
 | .move x | .assign x => some (ρ.ev C x)
 | .makeFunc fn first cap => some (.func fn (first.toList.map (ρ.ev C)) (cap.toList.map (ρ.ev C)))
 | _ => none
theorem CM {C : cV} {o : Op} {ρ : Env} {v : AV} (h : FY C o ρ = some v) (mu : Bool) (U : St) : vj C mu o ρ U = .val v := by
 unfold FY at h
 split at h
 · cases h; rfl
 · cases h; rfl
 · cases h; rfl
 · cases h
def uz (C : cV) (mu pf : List Nat) (ops : Array Oper) : List Oper -> Env -> St -> (Env -> St -> Prop) -> (AV -> St -> Prop) -> Prop
 | [], ρ, U, K, _ => K ρ U
 | o :: rest, ρ, U, K, Kp => match o.guard with
   | none => match FY C o.op ρ with
     | some v => uz C mu pf ops rest (ρ.eI o.dst v) U K Kp
     | none => (vj C (ph mu o) o.op ρ U).wp C U (fun v U => uz C mu pf ops rest (ρ.eI o.dst v) U K Kp) Kp
   | some jw => match Y1 pf o.op with
     | true => ae C (Fs ops ρ jw) (vj C (ph mu o) o.op ρ U) (fun v => uz C mu pf ops rest (ρ.eI o.dst v) U K Kp)
     | false => ao (Fs ops ρ jw) ((vj C (ph mu o) o.op ρ U).wp C U (fun v U => uz C mu pf ops rest (ρ.eI o.dst v) U K Kp) Kp)
       (uz C mu pf ops rest (ρ.eI o.dst (.aU [])) U K Kp)
theorem vn {C : cV} {mu pf : List Nat} {ops : Array Oper} {K : Env -> St -> Prop} {Kp : AV -> St -> Prop} : ∀ (l : List Oper) (ρ : Env) (U : St),
 uz C mu pf ops l ρ U K Kp -> oH C mu ops l ρ U K Kp
 | [], _, _, h => h
 | o :: rest, ρ, U, h => by
   have step : ∀ {r : aw}, r.wp C U (fun v U => uz C mu pf ops rest (ρ.eI o.dst v) U K Kp) Kp ->
    r.wp C U (fun v af => oH C mu ops rest (ρ.eI o.dst v) af K Kp) Kp := fun hr => aw.wp_mono (fun v af hv => vn rest _ _ hv) _ hr
   simp only [uz] at h
   simp only [oH]
   show ao (hZ ops ρ o.guard) ((jh C (ph mu o) o.op ρ U).wp C U (fun v af => oH C mu ops rest (ρ.eI o.dst v) af K Kp) Kp) (oH C mu ops rest (ρ.eI o.dst (.aU [])) U K Kp)
   rw [<- tg]
   cases hg : o.guard with
   | none =>
     rw [hg] at h
     simp only at h
     refine ⟨fun _ => ?_, fun hf => (by cases hf)⟩
     split at h
     · rename_i v hv
       rw [CM hv]
       exact vn rest _ _ h
     · exact step h
   | some jw =>
     rw [hg] at h
     simp only at h
     rw [Ft]
     split at h
     · rcases yo h with ⟨hb, v, hv, hk⟩ | ⟨hb, hk⟩
       · rw [hb]
         refine ⟨fun _ => ?_, fun hf => (by cases hf)⟩
         exact aw.KX _ hv (vn rest _ _ hk)
       · rw [hb]
         exact ⟨fun hf => (by cases hf), fun _ => vn rest _ _ hk⟩
     · cases hv : Fs ops ρ jw <;> rw [hv] at h <;> simp only [ao] at h ⊢
       exact ⟨fun e => step (h.1 e), fun e => vn rest _ _ (h.2 e)⟩
def ar (C : cV) : aw -> (AV -> Prop) -> Prop
 | .val v, k => k v
 | @aw.cond p _ r, k => p /\ ar C r k
 | .enter f args, k => ∃ v, Pure C f args v /\ k v
 | _, _ => False
theorem D3 {C : cV} : ∀ (r : aw) {k : AV -> Prop}, ar C r k -> ∃ v, r.yv C v /\ k v
 | .val v, k, h => ⟨v, rfl, h⟩
 | @aw.cond _ _ r, k, h => let ⟨v, h1, h2⟩ := D3 r h.2; ⟨v, ⟨h.1, h1⟩, h2⟩
 | .enter _ _, k, h => h
 | .kW _ _ _, _, h => h.elim
 | .new _ _ _, _, h => h.elim
 | .kP _ _, _, h => h.elim
 | .yield _ _, _, h => h.elim
 | .panic _, _, h => h.elim
 | .bad, _, h => h.elim
def Fx (C : cV) (ρ : Env) (o : Op) : List Nat := o.operands.toList.flatMap fun x => cr (ρ.ev C x)
def Y4 (b : Bool) (P k : Prop) : Prop := match b with
 | true => P /\ k
 | false => k
def YJ (b : Bool) (P k : Prop) : Prop := match b with
 | true => k
 | false => P /\ k
theorem Mp {ops : Array Oper} {i : Nat} {I : St -> Prop} {U : St} {k : Prop} (h : YJ (kO ops i) (I U) k) : Ix ops I i U /\ k := by
 unfold Ix
 cases ha : kO ops i <;> rw [ha] at h <;> simp only [YJ] at h
 · exact ⟨.inr h.1, h.2⟩
 · exact ⟨.inl rfl, h⟩
def BW (C : cV) (ops : Array Oper) (ρ : Env) (g : Option (Nat × Bool)) (i : Option AV) (r : aw) (k : AV -> Prop) : Prop := match g with
 | none => match i with
   | some v => k v
   | none => ar C r k
 | some jw => ae C (Fs ops ρ jw) r k
def gW (ops : Array Oper) (ρ : Env) (g : Option (Nat × Bool)) (A B : Prop) : Prop := match g with
 | none => A
 | some jw => ao (Fs ops ρ jw) A B
def tU (C : cV) (mu : List Nat) (ops : Array Oper) (ay : St) (K : Env -> St -> Prop) (Kp : AV -> St -> Prop) (B : List Nat) : List (Bool × Nat) -> Env -> St -> Prop
 | [], ρ, U => K ρ U
 | (true, i) :: r, ρ, U => match ops[i]? with
   | none => False
   | some o => match quiet o.op with
     | false => False
     | true => Y4 (ot o.op) (∀ b ∈ Fx C ρ o.op, b ∈ B) (BW C ops ρ o.guard (FY C o.op ρ) (vj C (ph mu o) o.op ρ ay) fun v => tU C mu ops ay K Kp B r (ρ.eI o.dst v) U)
 | (false, i) :: r, ρ, U => match ops[i]? with
   | none => False
   | some o => gW ops ρ o.guard ((vj C (ph mu o) o.op ρ U).wp C U (fun v U => YJ (kO ops i) (cv B ay U) (tU C mu ops ay K Kp B r (ρ.eI o.dst v) U)) Kp)
      (tU C mu ops ay K Kp B r (ρ.eI o.dst (.aU [])) U)
def EE (C : cV) (mu : List Nat) (ops : Array Oper) (ay : St) (K : Env -> St -> Prop) (Kp : AV -> St -> Prop) : List (Bool × Nat) -> List Nat -> Env -> St -> Prop
 | [], _, ρ, U => K ρ U
 | (true, i) :: r, B, ρ, U => match ops[i]? with
   | none => False
   | some o => match quiet o.op with
     | false => False
     | true => BW C ops ρ o.guard (FY C o.op ρ) (vj C (ph mu o) o.op ρ ay) fun v => EE C mu ops ay K Kp r (match ot o.op with | true => Fx C ρ o.op ++ B | false => B) (ρ.eI o.dst v) U
 | (false, i) :: r, B, ρ, U => tU C mu ops ay K Kp B ((false, i) :: r) ρ U
section
variable {C : cV} {mu : List Nat} {ops : Array Oper} {ay : St} {K : Env -> St -> Prop} {Kp : AV -> St -> Prop}
theorem QM {ρ : Env} {g : Option (Nat × Bool)} {A B : Prop} (h : gW ops ρ g A B) : (hZ ops ρ g = .bool true /\ A) \/ (hZ ops ρ g = .bool false /\ B) := by
 unfold gW at h
 cases g with
 | none => exact .inl ⟨rfl, h⟩
 | some jw =>
   simp only at h
   rw [Ft]
   cases hv : Fs ops ρ jw <;> rw [hv] at h <;> simp only [ao] at h
   rename_i b
   cases b
   · exact .inr ⟨rfl, h.2 rfl⟩
   · exact .inl ⟨rfl, h.1 rfl⟩
theorem yp {ρ : Env} {g : Option (Nat × Bool)} {i : Option AV} {r : aw} {k : AV -> Prop} (hi : ∀ v, i = some v -> r = .val v) (h : BW C ops ρ g i r k) : (hZ ops ρ g = .bool true /\ ∃ v, r.yv C v /\ k v) \/ (hZ ops ρ g = .bool false /\ k (.aU [])) := by
 unfold BW at h
 cases g with
 | none =>
   cases i with
   | none => exact .inl ⟨rfl, D3 r h⟩
   | some v => rw [hi v rfl]; exact .inl ⟨rfl, v, rfl, h⟩
 | some jw => simp only at h; rw [Ft]; exact yo h
theorem Bk {ρ : Env} {o : Op} {x : Operand} (hx : x ∈ o.operands.toList) {b : Nat} (hb : b ∈ cr (ρ.ev C x)) : b ∈ Fx C ρ o := List.mem_flatMap.2 ⟨x, hx, hb⟩
theorem sD (B : List Nat) : ∀ (l : List (Bool × Nat)) (ρ : Env) (U : St), tU C mu ops ay K Kp B l ρ U -> mA C mu ops B ay K Kp l ρ U
 | [], _, _, h => h
 | (true, i) :: r, ρ, U, h => by
   simp only [tU] at h
   split at h
   · exact h.elim
   · rename_i o ho
     split at h
     · exact h.elim
     · rename_i hq
       have key : ∀ {P k : Prop}, Y4 (ot o.op) P k -> (ot o.op = true -> P) /\ k := fun {P k} h => by
        cases hr : ot o.op <;> rw [hr] at h <;> simp only [Y4] at h
        · exact ⟨fun h => (by cases h), h⟩
        · exact ⟨fun _ => h.1, h.2⟩
       obtain ⟨hB, h⟩ := key h
       rcases yp (fun v hv => CM hv _ _) h with ⟨hg, v, hv, hk⟩ | ⟨hg, hk⟩
       · rw [tg] at hv
         exact ⟨o, v, ho, .inl ⟨hg, hq, fun hr x hx b hb => hB hr b (Bk hx hb), hv⟩, sD B r _ _ hk⟩
       · exact ⟨o, .aU [], ho, .inr ⟨hg, rfl⟩, sD B r _ _ hk⟩
 | (false, i) :: r, ρ, U, h => by
   simp only [tU] at h
   simp only [mA, ov]
   split at h
   · exact h.elim
   · rename_i o ho
     rw [ho]
     simp only
     rw [tg] at h
     rcases QM h with ⟨hg, h⟩ | ⟨hg, h⟩
     · rw [hg]
       exact ⟨fun _ => aw.wp_mono (fun v U hv => ⟨(Mp (I := cv B ay) hv).1, sD B r _ _ (Mp (I := cv B ay) hv).2⟩) _ h, fun h => by cases h⟩
     · rw [hg]
       exact ⟨fun h => (by cases h), fun _ => sD B r _ _ h⟩
theorem C0 : ∀ (l : List (Bool × Nat)) (B : List Nat) (ρ : Env) (U : St), EE C mu ops ay K Kp l B ρ U -> ∃ B', (∀ b ∈ B, b ∈ B') /\ mA C mu ops B' ay K Kp l ρ U
 | [], B, _, _, h => ⟨B, fun _ h => h, h⟩
 | (true, i) :: r, B, ρ, U, h => by
   simp only [EE] at h
   split at h
   · exact h.elim
   · rename_i o ho
     split at h
     · exact h.elim
     · rename_i hq
       rcases yp (fun v hv => CM hv _ _) h with ⟨hg, v, hv, hk⟩ | ⟨hg, hk⟩
       · rw [tg] at hv
         obtain ⟨B', hB, hA⟩ := C0 r _ _ _ hk
         refine ⟨B', fun b hb => hB b ?_, o, v, ho, .inl ⟨hg, hq, fun hr x hx b hb => hB b ?_, hv⟩, hA⟩
         · split
           · exact List.mem_append_right _ hb
           · exact hb
         · rw [hr]; exact List.mem_append_left _ (Bk hx hb)
       · obtain ⟨B', hB, hA⟩ := C0 r _ _ _ hk
         refine ⟨B', fun b hb => hB b ?_, o, .aU [], ho, .inr ⟨hg, rfl⟩, hA⟩
         split
         · exact List.mem_append_right _ hb
         · exact hb
 | (false, i) :: r, B, ρ, U, h => ⟨B, fun _ h => h, sD B _ _ _ h⟩
end
structure Qr where
 MC : (St -> Prop) -> St -> Prop
 n : St -> Prop
 e : Nat -> St -> Prop
 r : St -> Prop
def rW : Nat -> Type
 | 0 => Qr -> St -> Prop
 | n + 1 => AV -> rW n
def rW.app : (n : Nat) -> rW n -> List AV -> Qr -> St -> Prop
 | 0, f, _, q, U => f q U
 | n + 1, f, x :: xs, q, U => rW.app n (f x) xs q U
 | n + 1, f, [], q, U => rW.app n (f .any) [] q U
def rW.lam : (n : Nat) -> (List AV -> Qr -> St -> Prop) -> rW n
 | 0, F => fun q U => F [] q U
 | n + 1, F => fun x => rW.lam n (fun xs q U => F (x :: xs) q U)
theorem rW.pw : ∀ (n : Nat) (F : List AV -> Qr -> St -> Prop) (xs : List AV) (q : Qr) (U : St), xs.length = n -> rW.app n (rW.lam n F) xs q U = F xs q U
 | 0, F, [], q, U, _ => rfl
 | n + 1, F, x :: xs, q, U, h => rW.pw n (fun xs U => F (x :: xs) U) xs q U (by simpa using h)
 | 0, F, _ :: _, q, U, h => by simp at h
 | n + 1, F, [], q, U, h => by simp at h
def gN.st (L : gN) (s : LoopState) (p : Option Code) : gN := { L with state := s, fH := p }
def acj (o : Nat) (k : St -> Prop) (U : St) : Prop := ∃ L, U.loop o = some L /\ L.state = .ready /\ k (U.set o (.loop { L with state := .busy }))
def acq (o : Nat) (R : cS -> St -> Prop) : Qr where
 MC := acj o
 n := fun U => ∃ L, U.loop o = some L /\ R (.ret (.bool true)) (U.set o (.loop { L with state := .ready, fH := none }))
 e := fun id U => ∃ L, U.loop o = some L /\ R (.ret (.bool false)) (U.set o (.loop { L with state := .done, fH := some (.exit id) }))
 r := fun U => ∃ L, U.loop o = some L /\ R (.ret (.bool false)) (U.set o (.loop { L with state := .done, fH := some .ret }))
def MU (o : Nat) (Kn : St -> Prop) (Ke : Nat -> St -> Prop) (Kr : St -> Prop) (Kp : AV -> St -> Prop) : cS -> St -> Prop
 | .ret _, af => ∃ L, af.loop o = some L /\ L.state ≠ .busy /\ (match L.fH with
   | none => Kn (af.del o)
   | some .ret => Kr (af.del o)
   | some (.exit id) => Ke id (af.del o)
   | _ => False)
 | .panic x, af => Kp x af
def yu (C : cV) (np : Nat) (fv : AV) (U : St) (B : rW np) (Kn : St -> Prop) (Ke : Nat -> St -> Prop) (Kr : St -> Prop) (Kp : AV -> St -> Prop) : Prop :=
 match fv with
 | .func (.func iK) first cap => hU C.P iK = true /\ ∀ (o : Nat) (L : gN), U.dB o -> L.state = .ready -> L.fH = none ->
   (∀ (args : List AV) (bP : St) (R : cS -> St -> Prop) (L1 : gN), args.length = np -> bP.loop o = some L1 -> L1.st .ready none = L -> rW.app np B args (acq o R) bP -> lO C o args bP R) ->
   ad C iK (first ++ [.rO o] ++ cap) (U.new o (.loop L)) (MU o Kn Ke Kr Kp)
 | _ => False
def SP (b : Bool) (A B : Prop) : Prop := match b with
 | true => A
 | false => B
def gb (n : Nat) (J : Fn n) (B : Fn n -> Prop) : Prop := ∀ j : Fn n, Fn.imp n J j -> B j
def cD (n : Nat) (init : List AV) (U : St) (B : Fn n -> Fn n) : Prop :=
 ∃ I : Nat -> Fn n, (∃ m, Fn.app n (I m) init U) /\ ∀ m, Fn.imp n (I m) (B (Fn.lam n fun vs U => ∃ m', m' < m /\ Fn.app n (I m') vs U))
inductive An where
 | z
 | sq (live : Option (List Nat)) (a b : An)
 | cd (a b : An)
 | bk (a : An)
 | lp (live : List Nat) (a : An)
 | rg (mu pf : List Nat) (dv : Option Pl)
 | rb (mu : List Nat) (dv : Pl)
 | rf (a b : An)
def oa (C : cV) : Code -> An -> Qx -> Env -> St -> Prop
 | .skip, _, Q, ρ, U => Q.n ρ U
 | .exit i, _, Q, ρ, U => Q.e i ρ U
 | .ret, _, Q, ρ, U => Q.r ρ U
 | .seq a b, .sq none x y, Q, ρ, U => oa C a x { Q with n := fun ρ U => oa C b y Q ρ U } ρ U
 | .seq a b, .sq (some live) x y, Q, ρ, U => gb live.length (Fn.lam live.length fun vs U => oa C b y Q (CD live vs) U)
    fun j => oa C a x { Q with n := fun ρ U => Fn.app live.length j (live.map ρ.get) U } ρ U
 | .cond c a b, .cd x y, Q, ρ, U => ao (ρ.ev C c) (oa C a x Q ρ U) (oa C b y Q ρ U)
 | .block i a, .bk x, Q, ρ, U => oa C a x { Q with e := fun k ρ U => SP (Nat.beq k i) (Q.n ρ U) (Q.e k ρ U) } ρ U
 | .loop a, .lp live x, Q, ρ, U => cD live.length (live.map ρ.get) U fun lp => Fn.lam live.length fun vs U =>
    oa C a x { Q with n := fun ρ U => Fn.app live.length lp (live.map ρ.get) U } (CD live vs) U
 | .region _ ops false, .rg mu pf none, Q, ρ, U => uz C mu pf ops ops.toList ρ U Q.n Q.p
 | .region _ ops true, .rg mu pf (some dv), Q, ρ, U => EE C mu ops U Q.n Q.p dv.steps [] ρ U
 | .region _ ops true, .rb mu dv, Q, ρ, U => ∃ B : List Nat, tU C mu ops U Q.n Q.p B dv.steps ρ U
 | .rangeFunc f ps a b, .rf x y, Q, ρ, U => yu C ps.size (ρ.ev C f) U (rW.lam ps.size fun args qr U => oa C a x
    { n := fun ρ U => qr.MC (fun U => oa C b y { n := fun _ U => qr.n U, e := fun i _ U => qr.e i U, r := fun _ U => qr.r U, p := fun _ _ => False } ρ U) U, e := fun _ _ _ => False, r := fun _ _ => False, p := fun _ _ => False }
    ⟨wv ρ.get ps.toList args⟩ U) (fun U => Q.n ρ U) (fun i U => Q.e i ρ U) (fun U => Q.r ρ U) (fun x U => Q.p x U)
 | _, _, _, _, _ => False
def mh (nt : Nat) : Bool -> Code -> An -> Bool
 | _, .skip, _ => true
 | _, .exit _, _ => true
 | _, .ret, _ => true
 | top, .seq a b, .sq _ x y => mh nt top a x && mh nt top b y
 | top, .cond _ a b, .cd x y => mh nt top a x && mh nt top b y
 | top, .block _ a, .bk x => mh nt top a x
 | top, .loop a, .lp _ x => mh nt top a x
 | _, .region _ ops false, .rg _ _ none => mz nt ops
 | _, .region _ ops true, .rg _ _ (some dv) => mz nt ops && Ku ops dv
 | _, .region _ ops true, .rb _ dv => mz nt ops && Ku ops dv
 | top, .rangeFunc _ ps a b, .rf x y => top && ps.toList.all (fun t => Nat.blt t nt) && mh nt false a x && mh nt false b y
 | _, _, _ => false
theorem yU {C : cV} {nt : Nat} (hm : C.P.follows .mixedOrders = true) : ∀ (c : Code) (an : An) (top : Bool) (ro : Ro) (Q : Qx) (ρ : Env) (U : St), mh nt top c an = true -> (top = true -> ro = .fn) ->
 oa C c an Q ρ U -> bO C nt ro c Q.q ρ U := by
 intro c
 induction c with
 | skip => intro an top ro Q ρ U cW ht h; exact bO.skip h
 | exit i => intro an top ro Q ρ U cW ht h; exact bO.exit h
 | ret => intro an top ro Q ρ U cW ht h; exact bO.ret h
 | seq a b xW Ir =>
   intro an top ro Q ρ U cW ht h
   cases an <;> simp only [mh, bH, cF] at cW
   rename_i live x y
   refine bO.seq ?_
   cases live with
   | none =>
     simp only [oa] at h
     refine (xW x top ro _ ρ U cW.1 ht h).mono fun e ρ U he => ?_
     cases e <;> first | exact Ir y top ro Q ρ U cW.2 ht he | exact he
   | some live =>
     simp only [oa] at h
     have := h (Fn.lam live.length fun vs U => bO C nt ro b Q.q (CD live vs) U) (Fn.HR fun xs U hl hx => by
      rw [Fn.pw _ _ _ _ hl] at hx ⊢
      exact Ir y top ro Q _ _ cW.2 ht hx)
     refine (xW x top ro _ ρ U cW.1 ht this).mono fun e ρ U he => ?_
     cases e with
     | normal =>
       have kI : Fn.app live.length (Fn.lam live.length fun vs U => bO C nt ro b Q.q (CD live vs) U) (live.map ρ.get) U := he
       rw [Fn.pw _ _ _ _ (by simp)] at kI
       exact bO.Jh kI (Dm ρ live)
     | exit i => exact he
     | ret => exact he
     | panic x => exact he
 | cond c a b xW Ir =>
   intro an top ro Q ρ U cW ht h
   cases an <;> simp only [mh, bH, cF] at cW
   rename_i x y
   simp only [oa] at h
   cases hc : ρ.ev C c <;> rw [hc] at h <;> simp only [ao] at h
   exact bO.cond hc (fun e => xW x top ro Q ρ U cW.1 ht (h.1 e)) (fun e => Ir y top ro Q ρ U cW.2 ht (h.2 e))
 | block i a xW =>
   intro an top ro Q ρ U cW ht h
   cases an <;> simp only [mh, bH] at cW
   rename_i x
   simp only [oa] at h
   refine bO.block ((xW x top ro _ ρ U cW ht h).mono fun e ρ U he => ?_)
   cases e with
   | exit k =>
     have kI : SP (Nat.beq k i) (Q.n ρ U) (Q.e k ρ U) := he
     simp only [xy]
     cases hb : Nat.beq k i with
     | true => rw [hb] at kI; rw [if_pos (eT hb)]; exact kI
     | false => rw [hb] at kI; rw [if_neg (fun e => by subst e; simp at hb)]; exact kI
   | normal => exact he
   | ret => exact he
   | panic x => exact he
 | loop a xW =>
   intro an top ro Q ρ U cW ht h
   cases an <;> simp only [mh, bH] at cW
   rename_i live x
   simp only [oa] at h
   obtain ⟨I, ⟨m, h0⟩, hr⟩ := h
   refine bO.loop (fun m ρ U => Fn.app live.length (I m) (live.map ρ.get) U) (n := m) h0 fun m ρ U hI => ?_
   have := Fn.It (hr m) _ _ (by simp) hI
   rw [Fn.pw _ _ _ _ (by simp)] at this
   refine bO.Jh ((xW x top ro _ _ _ cW ht this).mono fun e dV af he => ?_) (Dm ρ live)
   cases e with
   | normal =>
     have kI : Fn.app live.length (Fn.lam live.length fun vs U => ∃ m', m' < m /\ Fn.app live.length (I m') vs U) (live.map dV.get) af := he
     rw [Fn.pw _ _ _ _ (by simp)] at kI
     exact kI
   | exit i => exact he
   | ret => exact he
   | panic x => exact he
 | region id ops draw =>
   intro an top ro Q ρ U cW ht h
   have kp : xo Q.q = fun x U => ∀ ρ : Env, Q.p x U := rfl
   cases draw with
   | false =>
     cases an with
     | rg mu pf dv =>
       cases dv with
       | none =>
         simp only [mh] at cW
         simp only [oa] at h
         refine bO.region mu cW ?_
         have h2 := vn _ ρ U h
         exact tS (fun _ _ h => h) (fun v U hv ρ => hv) _ h2
       | some dv => simp [mh] at cW
     | _ => simp [mh] at cW
   | true =>
     cases an with
     | rg mu pf dv =>
       cases dv with
       | none => simp [mh] at cW
       | some dv =>
         simp only [mh, cF] at cW
         simp only [oa] at h
         obtain ⟨B, _, hA⟩ := C0 _ _ _ _ h
         refine bO.wz mu B dv.steps hm cW.1 (IZ cW.2) ?_
         exact jP (fun _ _ h => h) (fun v U hv ρ => hv) _ hA
     | rb mu dv =>
       simp only [mh, cF] at cW
       simp only [oa] at h
       obtain ⟨B, hB⟩ := h
       refine bO.wz mu B dv.steps hm cW.1 (IZ cW.2) ?_
       exact jP (fun _ _ h => h) (fun v U hv ρ => hv) _ (sD B _ _ _ hB)
     | _ => simp [mh] at cW
 | rangeFunc f ps a b xW Ir =>
   intro an top ro Q ρ U cW ht h
   cases an <;> simp only [mh, bH, cF] at cW
   rename_i x y
   obtain ⟨⟨⟨h1, h2⟩, h3⟩, h4⟩ := cW
   have qB := ht h1
   subst qB
   simp only [oa, yu] at h
   split at h
   · rename_i iK first cap hf
     obtain ⟨sS, h⟩ := h
     refine bO.rangeFunc 0 hf sS fun o ho => ?_
     refine (h o ⟨ρ.get, nt, ps, a, b, .ready, none, 0⟩ ho rfl rfl ?_).mono fun r af hr => ?_
     · intro args bP R L1 hl rC fN hB
       obtain ⟨r1, r2, r3, r4, r5, r6, r7, r8⟩ := L1
       simp only [gN.st, gN.mk.injEq, true_and] at fN
       obtain ⟨e1, e2, e3, e4, e5, e6⟩ := fN
       subst e1 e2 e3 e4 e5 e6
       rw [rW.pw _ _ _ _ _ hl] at hB
       refine lO.Gl rC (by simpa using hl) (fun t ht => by
        have := eY.1 h2 t ht
        exact Nat.le_of_ble_eq_true this) ?_
       refine (xW x false (.round o) _ _ _ h3 (fun h => by cases h) hB).mono fun e dV af he => ?_
       cases e with
       | normal =>
         obtain ⟨L, k1, k2, k3⟩ := he
         refine ⟨L, k1, k2, (Ir y false (.round o) _ _ _ h4 (fun h => by cases h) k3).mono fun e rP bI he => ?_⟩
         cases e with
         | normal => exact he
         | exit i => exact he
         | ret => exact he
         | panic x => exact he
       | exit i => exact he
       | ret => exact he
       | panic x => exact he
     · cases r with
       | ret v =>
         obtain ⟨L, k1, k2, k3⟩ := hr
         refine ⟨L, k1, k2, ?_⟩
         split at k3
         · rename_i hp; rw [hp]; exact k3
         · rename_i hp; rw [hp]; exact k3
         · rename_i hp; rw [hp]; exact k3
         · exact k3.elim
       | panic v => exact hr
   · exact h.elim
 | scope a xW => intro an top ro Q ρ U cW; cases an <;> simp [mh] at cW
 | label l => intro an top ro Q ρ U cW; cases an <;> simp [mh] at cW
 | goto l => intro an top ro Q ρ U cW; cases an <;> simp [mh] at cW
 | refuse w => intro an top ro Q ρ U cW; cases an <;> simp [mh] at cW
def bL (vt : Option (Bool × Nat)) (p : AV) (U : St) (k : AV -> Prop) : Prop := match av vt p U with
 | .val v => k v
 | @aw.cond q _ (.val v) => q /\ k v
 | _ => False
def C3 (P : Program) (ρ : Env) (U : St) : List ResultVar -> (List AV -> Prop) -> Prop
 | [], k => k []
 | .tmp t :: rs, k => C3 P ρ U rs fun vs => k (ρ.get t :: vs)
 | .cell t ty :: rs, k => bL (nu P ty) (ρ.get t) U fun v => C3 P ρ U rs fun vs => k (v :: vs)
theorem vq {P : Program} {ρ : Env} {U : St} : ∀ (l : List ResultVar) (k : List AV -> Prop), C3 P ρ U l k -> uE P ρ U l k
 | [], _, h => h
 | .tmp t :: rs, k, h => vq rs _ h
 | .cell t ty :: rs, k, h => by
   simp only [C3, bL] at h
   simp only [uE, y8]
   rw [show tO P ty (ρ.get t) U = av (nu P ty) (ρ.get t) U from rfl]
   split at h
   · rename_i hl; rw [hl]; exact vq rs _ h
   · rename_i hl; rw [hl]; exact ⟨h.1, vq rs _ h.2⟩
   · exact h.elim
def al (R : cS -> St -> Prop) (x : AV) (U : St) : Prop := ∃ x' af, lN x U x' af /\ R (.ret x') af
def aa (R : cS -> St -> Prop) (x : AV) (U : St) : Prop := R (.panic x) U
def acz (P : Program) (fn : Func) (R : cS -> St -> Prop) : Qx where
 n := fun ρ U => C3 P ρ U fn.results.toList fun vs => al R (uH vs) U
 e := fun _ _ _ => False
 r := fun ρ U => C3 P ρ U fn.results.toList fun vs => al R (uH vs) U
 p := aa R
def Jt (C : cV) (fn : Func) (an : An) (args : List AV) (R : cS -> St -> Prop) (U : St) : Prop := match fn.body with
 | some c => oa C c an (acz C.P fn R) (Env.jg args) U
 | none => False
def okF (fn : Func) (an : An) (n : Nat) : Bool := match fn.body with
 | some c => mh fn.ntmps true c an && Nat.ble n fn.ntmps
 | none => false
theorem ad.U1 {C : cV} (hm : C.P.follows .mixedOrders = true) {f : FuncId} {fn : Func} (an : An) {args : List AV} {R : cS -> St -> Prop} {U : St} (hf : C.P.funcs[f]? = some fn) (cW : okF fn an args.length = true)
 (h : Jt C fn an args R U) : ad C f args U R := by
 unfold okF at cW
 unfold Jt at h
 split at cW
 · rename_i c hb
   rw [hb] at h
   simp only [cF] at cW
   refine ad.IT hf hb (Nat.le_of_ble_eq_true cW.2) ?_
   refine (yU hm c an true .fn _ _ _ cW.1 (fun _ => rfl) h).mono fun e ρ U he => ?_
   cases e with
   | normal => exact vq _ _ he
   | ret => exact vq _ _ he
   | panic x => exact he
   | exit i => exact he
 · cases cW
theorem al.mk {R : cS -> St -> Prop} {x : AV} {U : St} (h : R (.ret x) U) : al R x U := ⟨x, U, lN.refl _ _, h⟩
end Go.Rip
namespace Go.Rip
open Go.RowKit
section
variable {C : cV} {U : St} {K : AV -> St -> Prop} {Kp : AV -> St -> Prop}
@[simp] theorem aj (v : AV) : (aw.val v).wp C U K Kp = K v U := rfl
@[simp] theorem k0 (v : AV) (b : Nat) (x : Live) : (aw.kW v b x).wp C U K Kp = K v (U.set b x) := rfl
@[simp] theorem oc (k : NV) (x : Live) : (aw.new k none x).wp C U K Kp = ∀ b, U.dB b -> K (k.at b) (U.new b x) := rfl
@[simp] theorem acZ (k : NV) (d : Nat) (x : Live) : (aw.new k (some d) x).wp C U K Kp = ∀ b, (U.del d).dB b -> K (k.at b) ((U.del d).new b x) := rfl
@[simp] theorem wS (f : FuncId) (args : List AV) : (aw.enter f args).wp C U K Kp = ad C f args U (ai K Kp) := rfl
@[simp] theorem AP (f : Nat) (args : List AV) : (aw.yield f args).wp C U K Kp = lO C f args U (ai K Kp) := rfl
@[simp] theorem SJ (v : AV) : (aw.panic v).wp C U K Kp = Kp v U := rfl
@[simp] theorem wp_cond (p : Prop) [Decidable p] (r : aw) : (aw.cond p r).wp C U K Kp = (p /\ r.wp C U K Kp) := rfl
@[simp] theorem ac0 : aw.bad.wp C U K Kp = False := rfl
@[simp] theorem ac1 (p : Prop) [Decidable p] (r s : aw) : (if p then r else s).wp C U K Kp = if p then r.wp C U K Kp else s.wp C U K Kp := by split <;> rfl
@[simp] theorem bg (x : AV) : ai K Kp (.ret x) U = K x U := rfl
@[simp] theorem ZT (x : AV) : ai K Kp (.panic x) U = Kp x U := rfl
end
@[simp] theorem ZU (b : Bool) (A B : Prop) : ao (.bool b) A B = ((b = true -> A) /\ (b = false -> B)) := rfl
theorem aK (A B : Prop) : ao (.bool true) A B = A := by simp [ao]
theorem aE (A B : Prop) : ao (.bool false) A B = B := by simp [ao]
theorem aT (p : Prop) [Decidable p] (A B : Prop) : ao (.bool (decide p)) A B = ((p -> A) /\ (¬ p -> B)) := by simp [ao]
@[simp] theorem aS (b w : Bool) : au (.bool b) w = .bool (b == w) := rfl
@[simp] theorem acV (w : Bool) : au (.aU []) w = .bool false := rfl
@[simp] theorem eN (v : AV) : C8 true v = v := rfl
@[simp] theorem yF (v : AV) : C8 false v = .aU [] := rfl
@[simp] theorem aM (C : cV) (b : Bool) (r : aw) (k : AV -> Prop) : ae C (.bool b) r k = eC C b r k := rfl
@[simp] theorem iz (C : cV) (b : Bool) (v : AV) (k : AV -> Prop) : eC C b (.val v) k = k (C8 b v) := rfl
@[simp] theorem ZW (C : cV) (b : Bool) (p : Prop) [Decidable p] (r : aw) (k : AV -> Prop) : eC C b (.cond p r) k = ((b = true -> p) /\ eC C b r k) := rfl
@[simp] theorem Y0 (C : cV) (b : Bool) (f : FuncId) (args : List AV) (k : AV -> Prop) : eC C b (.enter f args) k = ∃ v, (b = true -> Pure C f args v) /\ k (C8 b v) := rfl
@[simp] theorem bz (C : cV) (k : AV -> Prop) : ∀ r : aw, (eC C false r k) = k (.aU [])
 | .val v => rfl
 | @aw.cond _ _ r => by simp only [eC]; rw [bz C k r]; simp
 | .enter _ _ => by simp [eC]
 | .kW _ _ _ => by simp [eC]
 | .new _ _ _ => by simp [eC]
 | .kP _ _ => by simp [eC]
 | .yield _ _ => by simp [eC]
 | .panic _ => by simp [eC]
 | .bad => by simp [eC]
@[simp] theorem aJ (C : cV) (v : AV) (k : AV -> Prop) : ar C (.val v) k = k v := rfl
@[simp] theorem jX (C : cV) (p : Prop) [Decidable p] (r : aw) (k : AV -> Prop) : ar C (.cond p r) k = (p /\ ar C r k) := rfl
@[simp] theorem yq (C : cV) (f : FuncId) (args : List AV) (k : AV -> Prop) : ar C (.enter f args) k = ∃ v, Pure C f args v /\ k v := rfl
theorem tW (C : cV) (k : AV -> Prop) : ∀ r : aw, eC C true r k = ar C r k
 | .val v => rfl
 | @aw.cond _ _ r => by simp only [eC, ar, tW C k r]; simp
 | .enter _ _ => by simp [eC, ar]
 | .kW _ _ _ => by simp [eC, ar]
 | .new _ _ _ => by simp [eC, ar]
 | .kP _ _ => by simp [eC, ar]
 | .yield _ _ => by simp [eC, ar]
 | .panic _ => by simp [eC, ar]
 | .bad => by simp [eC, ar]
@[simp] theorem bG (C : cV) (k : AV -> Prop) (r : aw) : eC C true r k = ar C r k := tW C k r
theorem oq (C : cV) (k : AV -> Prop) (r : aw) (p : Prop) [Decidable p] : eC C (decide p) r k = ((p -> ar C r k) /\ (¬ p -> k (.aU []))) := by
 by_cases h : p <;> simp [h]
theorem ng (C : cV) (k : AV -> Prop) (r : aw) (p : Prop) [Decidable p] : eC C (!decide p) r k = ((p -> k (.aU [])) /\ (¬ p -> ar C r k)) := by
 by_cases h : p <;> simp [h]
@[simp] theorem aF (b : Bool) (x y : AV) : aY (.bool b) x y = .val (if b = true then x else y) := rfl
@[simp] theorem ite_bool (b x y : Bool) : (if b = true then AV.bool x else AV.bool y) = .bool (if b = true then x else y) := by split <;> rfl
section
variable (bt : BT) (l : Bool) (k : IntKind) (a b : Int) (s t : List UInt8)
@[simp] theorem aV : aq .eql bt l (.int k a) (.int k b) = .val (.bool (decide (a = b))) := by simp only [aq, if_true]; rfl
@[simp] theorem cg : aq .neq bt l (.int k a) (.int k b) = .val (.bool (!decide (a = b))) := by simp only [aq, if_true]; rfl
@[simp] theorem bh : aq .lss bt l (.int k a) (.int k b) = .val (.bool (decide (a < b))) := by simp only [aq, if_true]
@[simp] theorem iW : aq .leq bt l (.int k a) (.int k b) = .val (.bool (decide (a <= b))) := by simp only [aq, if_true]
@[simp] theorem eu : aq .gtr bt l (.int k a) (.int k b) = .val (.bool (decide (b < a))) := by simp only [aq, if_true, gt_iff_lt]
@[simp] theorem fg : aq .geq bt l (.int k a) (.int k b) = .val (.bool (decide (b <= a))) := by simp only [aq, if_true, ge_iff_le]
@[simp] theorem k9 : aq .add bt l (.int k a) (.int k b) = ir k (a + b) := by simp only [aq, if_true]
@[simp] theorem jT : aq .sub bt l (.int k a) (.int k b) = ir k (a - b) := by simp only [aq, if_true]
@[simp] theorem Hd : aq .mul bt l (.int k a) (.int k b) = ir k (a * b) := by simp only [aq, if_true]
@[simp] theorem ZR : aq .quo bt l (.int k a) (.int k b) = .cond (b ≠ 0) (ir k (a.tdiv b)) := by simp only [aq, if_true]
@[simp] theorem ZS : aq .rem bt l (.int k a) (.int k b) = .cond (b ≠ 0) (.val (.int k (a.tmod b))) := by simp only [aq, if_true]
@[simp] theorem iV : aq .eql bt l (.str s) (.str t) = .val (.bool (decide (s = t))) := by
 show aw.val (.bool (s == t)) = _
 rw [show (s == t) = decide (s = t) from nq.2 (by simp)]
@[simp] theorem iX : aq .neq bt l (.str s) (.str t) = .val (.bool (!decide (s = t))) := by
 show aw.val (.bool (s != t)) = _
 rw [show (s != t) = !decide (s = t) from nq.2 (by simp)]
@[simp] theorem ZO : aq .add bt l (.str s) (.str t) = .cond (s.length + t.length <= 4294967296) (.val (.str (s ++ t))) := rfl
@[simp] theorem Xm (x y : Bool) (i p : Bool) (f : Option (List FK)) : aq .eql ⟨true, i, p, f⟩ l (.bool x) (.bool y) = .val (.bool (x == y)) := by simp only [aq, if_true]
@[simp] theorem E0 (x y : Bool) (i p : Bool) (f : Option (List FK)) : aq .neq ⟨true, i, p, f⟩ l (.bool x) (.bool y) = .val (.bool (x != y)) := by simp only [aq, if_true]
@[simp] theorem ZP (x y : List AV) (i p q : Bool) (f : List FK) : aq .eql ⟨q, i, p, some f⟩ l (.agg x) (.agg y) = tp .bool (nG f x y) := rfl
@[simp] theorem ZQ (x y : List AV) (i p q : Bool) (f : List FK) : aq .neq ⟨q, i, p, some f⟩ l (.agg x) (.agg y) = tp (fun r => .bool (!r)) (nG f x y) := rfl
@[simp] theorem aby (f : Bool -> AV) (r : Bool) : tp f (some r) = .val (f r) := rfl
@[simp] theorem cZ (x : Bool) : fZ .not (.bool x) = .val (.bool (!x)) := rfl
@[simp] theorem hM : ir .i64 a = .cond (tz a) (.val (.int .i64 a)) := rfl
@[simp] theorem Ae : ir .u8 a = .val (.int .u8 (IntKind.u8.wrap a)) := rfl
end
theorem bp {n : Int} (h1 : -9223372036854775808 <= n) (h2 : n <= 9223372036854775807) : tz n := ⟨h1, h2⟩
section
variable (sz b o : Nat) (p v : AV) (U : St) (L l : List AV)
theorem s9 {U : St} {b : Nat} {L : List AV} (h : U.box b = some L) (n o : Nat) : av (some (false, n)) (.box b o) U = gP (L.drop o) := by simp [av, lP, h]
theorem Mz {U : St} {b : Nat} {L : List AV} (h : U.box b = some L) (n o : Nat) : av (some (true, n)) (.box b o) U = .cond (n <= (L.drop o).length) (.val (.agg ((L.drop o).take n))) := by simp [av, lP, h]
@[simp] theorem tP : av (some (false, sz)) (.cP L) U = gP L := rfl
@[simp] theorem Kj : av (some (true, sz)) (.cP L) U = .cond (sz <= L.length) (.val (.agg (L.take sz))) := rfl
@[simp] theorem dO (x : AV) : gP (x :: L) = .val x := rfl
theorem mi {U : St} {b : Nat} {L : List AV} (h : U.box b = some L) (t : Bool) (n o : Nat) (v : AV) : aD (some (t, n)) (.box b o) v U = .cond (v.cN = true /\ (aC v).length = n /\ o + n <= L.length) (.kW (.aU []) b (.box (az L o (aC v)))) := by simp [aD, h]
@[simp] theorem bu : aI (.box b o) = .val (.box b o) := rfl
@[simp] theorem xk : aI (.cP L) = .val (.cP L) := rfl
@[simp] theorem Vu (f : Nat) (x y : List AV) : aI (.func (.func f) x y) = .val (.func (.func f) x y) := rfl
@[simp] theorem aR (k : Nat) : ag (some k) (.box b o) = .val (.box b (o + k)) := rfl
@[simp] theorem eH (k : Nat) : ag (some k) (.cP L) = .val (.cP (L.drop k)) := rfl
@[simp] theorem Bc (k n : Nat) : rA (some (k, false, n)) (.agg L) = gP (L.drop k) := rfl
@[simp] theorem aaD (k n : Nat) : rA (some (k, true, n)) (.agg L) = .cond (k + n <= L.length) (.val (.agg ((L.drop k).take n))) := rfl
@[simp] theorem xi (e n : Nat) (c : kh) (k : IntKind) (j : Int) (at_ : Option (Nat × TypeId × Nat)) : aH (some (e, sz)) at_ (.vec n c L) (.int k j) = .cond (0 <= j /\ j < n) (.val (.cP (L.drop (j.toNat * sz)))) := rfl
@[simp] theorem YH (e n z t : Nat) (k : IntKind) (j : Int) (at_ : Option (Nat × TypeId × Nat)) : aH (some (e, sz)) at_ (.ms b o n z t) (.int k j) = .cond (0 <= j /\ j < n /\ z = sz) (.val (.box b (o + j.toNat * sz))) := rfl
@[simp] theorem DL (s : List UInt8) (k : IntKind) (j : Int) (at_ : Option (Nat × TypeId × Nat)) (vt : Option (Bool × Nat)) : dU true at_ vt (.str s) (.int k j) = .cond (0 <= j /\ j < s.length) (.val (.int .u8 (s.getD j.toNat 0).toNat)) := by simp [dU]
@[simp] theorem eM (s : List UInt8) : bD (some true) (.str s) = .val (.int .i64 s.length) := rfl
@[simp] theorem pH (n : Nat) (c : kh) : bD (some false) (.vec n c L) = .val (.int .i64 n) := rfl
@[simp] theorem BK (n z e : Nat) : bD (some false) (.ms b o n z e) = .val (.int .i64 n) := rfl
@[simp] theorem len_nil : bD (some false) .ak = .val (.int .i64 0) := rfl
@[simp] theorem bC (k : Nat) : aX (.aU L) k = gP (L.drop k) := rfl
@[simp] theorem xA : aC (.agg L) = L := rfl
@[simp] theorem Dh (k : IntKind) (n : Int) : aC (.int k n) = [.int k n] := rfl
@[simp] theorem Di (s : List UInt8) : aC (.str s) = [.str s] := rfl
@[simp] theorem aaw (x : Bool) : aC (.bool x) = [.bool x] := rfl
@[simp] theorem abt : aC (.box b o) = [.box b o] := rfl
@[simp] theorem abu (n : Nat) (c : kh) : aC (.vec n c L) = [.vec n c L] := rfl
@[simp] theorem abF (n z e : Nat) : aC (.ms b o n z e) = [.ms b o n z e] := rfl
@[simp] theorem UE : aC .ak = [.ak] := rfl
@[simp] theorem Xq : aC .bj = [.bj] := rfl
@[simp] theorem aay (f : Go.Fn) (x y : List AV) : aC (.func f x y) = [.func f x y] := rfl
@[simp] theorem aax (x y : List AV) : aC (.fS x y) = [.fS x y] := rfl
@[simp] theorem abE (m : Nat) : aC (.mp m) = [.mp m] := rfl
@[simp] theorem Rm : (AV.agg L).cN = true := rfl
@[simp] theorem Rp (k : IntKind) (n : Int) : (AV.int k n).cN = true := rfl
@[simp] theorem Rq (s : List UInt8) : (AV.str s).cN = true := rfl
@[simp] theorem abv (x : Bool) : (AV.bool x).cN = true := rfl
@[simp] theorem acg : (AV.box b o).cN = true := rfl
@[simp] theorem ach (n : Nat) (c : kh) : (AV.vec n c L).cN = true := rfl
@[simp] theorem acX (n z e : Nat) : (AV.ms b o n z e).cN = true := rfl
@[simp] theorem Vt : AV.ak.cN = true := rfl
@[simp] theorem ZV : AV.bj.cN = true := rfl
@[simp] theorem abx (f : Go.Fn) (x y : List AV) : (AV.func f x y).cN = true := rfl
@[simp] theorem abw (x y : List AV) : (AV.fS x y).cN = true := rfl
@[simp] theorem acW (m : Nat) : (AV.mp m).cN = true := rfl
@[simp] theorem Dg (h : v.cN = true) : jb v = .cond True (.cJ (aC v)) := by simp [jb, h]
@[simp] theorem kV (s : List UInt8) (sl : Option (TypeId × Nat)) (lo hi : Option AV) : fW true sl (.str s) lo hi = (match dS 0 lo, dS s.length hi with
 | some l, some h => .cond (0 <= l /\ l <= h /\ h <= s.length) (.val (.str ((s.take h.toNat).drop l.toNat)))
 | _, _ => .bad) := by
 simp only [fW]
 cases dS 0 lo <;> cases dS (s.length : Int) hi <;> rfl
@[simp] theorem iY (d : Int) : dS d none = some d := rfl
@[simp] theorem jU (d : Int) (k : IntKind) (n : Int) : dS d (some (.int k n)) = some n := rfl
@[simp] theorem P6 (e n : Nat) (c : kh) (lo hi : Option AV) (st : Bool) : fW st (some (e, sz)) (.vec n c L) lo hi = (match dS 0 lo, dS n hi with
 | some a, some b => .cond (0 <= a /\ a <= b /\ b <= n) (.val (.vec (b.toNat - a.toNat) (vL c hi) ((L.take (b.toNat * sz)).drop (a.toNat * sz))))
 | _, _ => .bad) := by
 simp only [fW]
 cases dS 0 lo <;> cases dS (n : Int) hi <;> rfl
@[simp] theorem IG (k : IntKind) (a b : Int) : wi (.int k a) (.int k b) = .val (.int k (if b > a then b else a)) := by simp [wi]
@[simp] theorem IH (k : IntKind) (a b : Int) : ux (.int k a) (.int k b) = .val (.int k (if b < a then b else a)) := by simp [ux]
end
theorem al.eq {R : cS -> St -> Prop} {x y : AV} {U : St} (h : R (.ret y) U) (e : x = y) : al R x U := by subst e; exact al.mk h
theorem Pure.go {C : cV} {f : FuncId} {args : List AV} {x : AV} {K : AV -> St -> Prop} {Kp : AV -> St -> Prop} {U : St} (h : Pure C f args x) (hk : K x U) : ad C f args U (ai K Kp) := h U _ hk
end Go.Rip
