/- Lemmas for the proof: no conditions. -/
import Derived.Test.YtnfpmiiopiinbaaGreatDoorRipZz
import Derived.Test.YtnfpmiiopiinbaaGreatDoorRipB
set_option linter.unusedVariables false
set_option linter.unusedSimpArgs false
set_option linter.loopingSimpArgs false
namespace Go.Rip
open Go.RowKit
mutual
def flat : AV -> Bool
 | .bool _ | .int _ _ | .str _ | .aR | .aq | .iK | .cx | .cg => true
 | .iface _ v => flat v
 | .agg l => wA l
 | .aL l => wA l
 | _ => false
def wA : List AV -> Bool
 | [] => true
 | x :: xs => flat x && wA xs
end
mutual
theorem ak.flat {g g' : Gh} : ∀ (x : AV) (v : Value), flat x = true -> ak g x v -> ak g' x v
 | .bool _, _, _, hr => hr
 | .int _ _, _, _, hr => hr
 | .str _, _, _, hr => hr
 | .aR, _, _, hr => hr
 | .aq, _, _, hr => hr
 | .iK, _, _, hr => hr
 | .cx, _, _, hr => hr
 | .cg, _, _, hr => hr
 | .iface t x, v, h, hr => by
   simp only [Rip.flat] at h
   simp only [ak] at hr ⊢
   obtain ⟨u, h1, h2⟩ := hr
   exact ⟨u, h1, ak.flat x u h h2⟩
 | .agg l, v, h, hr => by
   simp only [Rip.flat] at h
   simp only [ak] at hr ⊢
   obtain ⟨vs, h1, h2, h3⟩ := hr
   exact ⟨vs, h1, h2, ar.flat l _ h h3⟩
 | .aL l, v, h, hr => by
   simp only [Rip.flat] at h
   simp only [ak] at hr ⊢
   obtain ⟨vs, h1, h3⟩ := hr
   exact ⟨vs, h1, ar.flat l _ h h3⟩
theorem ar.flat {g g' : Gh} : ∀ (l : List AV) (vs : List Value), wA l = true -> ar g l vs -> ar g' l vs
 | [], vs, _, h => by cases vs <;> simp_all [ar]
 | x :: xs, vs, h, hr => by
   simp only [wA, bF] at h
   simp only [ar] at hr ⊢
   obtain ⟨v, vs', h1, h2, h3⟩ := hr
   exact ⟨v, vs', h1, ak.flat x v h.1 h2, ar.flat xs vs' h.2 h3⟩
end
theorem ae.Oq {C : bQ} {f : Nat} {args args0 : List AV} {U : St} {R : cm -> St -> Prop} {x : AV} (d : Nat) (wH : ∀ i, closed (C.tc i) = true)
 (hw : ∀ g vs, ar g (args.map (resolve d U)) vs -> ar g args0 vs) (hargs : bH args0 = true) (hx : flat x = true) (h : Pure C f args0 x) (hR : R (.ret x) U) : ae C f args U R := by
 intro g w vs hs hG ha
 have Mp := hs.wR
 let g0 : Gh := { base := w.heap.size, w0 := w, place := fun _ => none, bq := (g.all w).bq, bg := (g.all w).bg, res := fun _ => false }
 have oM : aQ g0 (bj ⟨.e, 0⟩) w := {
  below := Below.refl _ _
  le := cA _
  bq := fun q o u hu => rh hs q o u hu
  bg := fun q es c hu => pQ hs q es c hu
  live := fun b x hb => by cases hb
  apart := fun b b' x x' p p' hb => by cases hb
  res := fun r hr => by cases hr
  fin := ⟨0, fun n hn => by cases hn; rfl, fun _ _ => rfl⟩ }
 have Gr : eL C g0 := ⟨fun i => ak.closed (g := g) (g' := g0) (fun _ _ _ h => Mp.bq _ _ _ h) (fun _ _ h => Mp.bg _ _ h) _ _ (wH i) (hG.1 i), fun i cs hi => by
  obtain ⟨k1, t, fr, k2⟩ := hG.2 i cs hi
  refine ⟨Nat.lt_of_lt_of_le k1 hs.le, t, fr, ?_⟩
  show w.heap[i]? = _
  rw [hs.below.block i k1]; exact k2⟩
 have Qb : ar g0 args0 vs := ar.closed (g := g.all w) (g' := g0) (fun _ _ _ h => h) (fun _ _ h => h) _ _ hargs (hw _ _ (vP (fun x v _ hr => u7 hs d x v hr) ha))
 refine (h (bj ⟨.e, 0⟩) (fun r _ => r = .ret x) rfl g0 w vs oM Gr Qb).mono ?_
 rintro e w' hp
 cases e with
 | panicked ch => obtain ⟨g', ad, y, v, _, _, _, _, hz⟩ := hp; cases hz
 | outgrown => exact hp.elim
 | returned v =>
   obtain ⟨g', ad, y, h1, h2, h3, hz⟩ := hp
   cases hz
   have oI := h2.wR
   have hle := h1.trans oI
   have rv : Below w.heap.size w w' := by
    have := h2.below
    rw [h1.base, h1.w0] at this
    exact this
   let gF : Gh := { base := g.base, w0 := g.w0, place := g.place, bq := g.bq, bg := g.bg, res := g.res }
   have AT : Gh.Le g gF := ⟨rfl, rfl, fun _ _ h => h, fun b o u hu => hu, fun b u hu => hu, fun _ h => h, fun _ _ _ => rfl, fun _ _ => rfl⟩
   refine ⟨gF, U, x, AT, ?_, ak.flat x v hx h3, hR⟩
   exact {
    below := hs.below.trans (rv.mono hs.le)
    le := Nat.le_trans hs.le rv.size
    bq := fun q o u hu => rh h2 q o u (hle.bq _ _ _ (Mp.bq _ _ _ hu))
    bg := fun q es c hu => pQ h2 q es c (hle.bg _ _ (Mp.bg _ _ hu))
    live := fun b l hb => by
     obtain ⟨p, k1, k2, k3⟩ := hs.live b l hb
     have aH := k3.lt
     exact ⟨p, k1, k2, k3.frame AT.r (rv.block _ aH) (fun o => rfl) rfl⟩
    apart := hs.apart
    res := fun r hr => by
     obtain ⟨k1, k2⟩ := hs.res r hr
     exact ⟨k1, by rw [rv.block _ (gD.1 k2).1]; exact k2⟩
    fin := hs.fin }
inductive Wk : List AV -> List AV -> Prop
 | nil : Wk [] []
 | bA (x : AV) {l l' : List AV} : Wk l l' -> Wk (x :: l) (x :: l')
 | drop (x : AV) {l l' : List AV} : Wk l l' -> Wk (.any :: l) (x :: l')
theorem Wk.rep {g : Gh} {l l' : List AV} (h : Wk l l') : ∀ {vs : List Value}, ar g l' vs -> ar g l vs := by
 induction h with
 | nil => exact fun h => h
 | bA x _ ih =>
   intro vs h
   simp only [ar] at h ⊢
   obtain ⟨u, us, h1, h2, h3⟩ := h
   exact ⟨u, us, h1, h2, ih h3⟩
 | drop x _ ih =>
   intro vs h
   simp only [ar] at h ⊢
   obtain ⟨u, us, h1, h2, h3⟩ := h
   exact ⟨u, us, h1, by simp only [ak], ih h3⟩
theorem Wk.bL {g : Gh} {l l' r : List AV} {vs : List Value} (h : Wk l l') (hr : ar g (.bL l' :: r) vs) : ar g (.bL l :: r) vs := by
 simp only [ar, ak] at hr ⊢
 obtain ⟨u, us, h1, ⟨ax, off, ws, h2, h3, h4⟩, h5⟩ := hr
 exact ⟨u, us, h1, ⟨ax, off, ws, h2, h3, h.rep h4⟩, h5⟩
theorem Wk.any : ∀ (l : List AV), Wk (l.map fun _ => .any) l
 | [] => .nil
 | x :: l => .drop x (Wk.any l)
end Go.Rip
namespace Go.Rip
open Go.RowKit
def ao (vt : Option (Bool × Nat)) (p : AV) (U : St) : aA :=
 match vt, iz U p with
 | some (true, sz), some l => .cond (sz <= l.length) (.val (.agg (l.take sz)))
 | some (false, _), some l => eR l
 | _, _ => .bad
def aM (vt : Option (Bool × Nat)) (p v : AV) (U : St) : aA :=
 match vt, p with
 | some (_, sz), .box b off => match U.box b with
   | some l => .cond (v.cr = true /\ (au v).length = sz /\ off + sz <= l.length) (.ir (.aL []) b (.box (aB l off (au v))))
   | none => .bad
 | _, _ => .bad
def OP (t : TypeId) (z : Option (List AV)) : aA :=
 match z with
 | some l => Ai t l
 | none => .bad
def dO (st : Option (List (Nat × Nat))) (z : Option (List AV)) (at_ : Option (Nat × TypeId × Nat)) (parts : List (Nat × AV)) : aA :=
 match st, z with
 | some pl, some z => dY (fun i => pl[i]?) parts z fun z => .val (.agg z)
 | none, some z => match at_ with
   | some (_, _, sz) => dY (fun i => some (i * sz, sz)) parts z fun z => .val (.agg z)
   | none => .bad
 | _, _ => .bad
def aD (sl : Option (TypeId × Nat)) (z : Option (List AV)) (n : Nat) (mu : Bool) (parts : List (Nat × AV)) : aA :=
 match sl with
 | some (e, sz) => match z with
   | some z => .cond (n * sz <= 16777216) (dY (fun i => some (i * sz, sz)) parts (bp n z) fun cs => .cond (cs.length = n * sz) (if mu then .ku n sz e none cs else .val (.vec n .full cs)))
   | none => .bad
 | none => .bad
def gk (mt : Option (FK × TypeId)) (m k v : AV) (U : St) : aA :=
 match mt, m with
 | some (fk, _), .mp id => match U.mp id with
   | some (ks, vs) => match iv fk k ks 0, mq fk k with
     | some none, true => .ir (.aL []) id (.mp (ep k v ks vs).1 (ep k v ks vs).2)
     | some (some i), true => .ir (.aL []) id (.mp ks (vs.set i v))
     | _, _ => .bad
   | none => .bad
 | _, _ => .bad
def ez (mt : Option (FK × TypeId)) (z : Option AV) (m k : AV) (ok : Bool) (U : St) : aA :=
 match mt, jb U m with
 | some (fk, e), some (ks, vs) => match z, mq fk k with
   | some z, true => jf fk k z ok ks vs
   | _, _ => .bad
 | _, _ => .bad
def zP (it : Option IntKind) (is : Bool) (ss bs : Bool) (x : AV) : aA :=
 match it, is, x with
 | some .i64, true, .int _ n => .cond (su n) (.val (.int .i64 n))
 | some k, true, .int _ n => .val (.int k (k.wrap n))
 | none, true, .str s => if ss = true then .val (.str s) else
   if bs = true then .cond (s.length <= 4294967296) (.val (.vec s.length .gq (s.map fun b => .int .u8 b.toNat))) else .bad
 | _, _, _ => .bad
def fi (st : Bool) (sl : Option (TypeId × Nat)) (x : AV) (lo hi : Option AV) : aA :=
 match x with
 | .str s => match st, cI 0 lo, cI s.length hi with
   | true, some l, some h => .cond (0 <= l /\ l <= h /\ h <= s.length) (.val (.str ((s.take h.toNat).drop l.toNat)))
   | _, _, _ => .bad
 | .vec n cap l => match sl, cI 0 lo, cI n hi with
   | some (_, sz), some a, some b => .cond (0 <= a /\ a <= b /\ b <= n) (.val (.vec (b.toNat - a.toNat) (rl cap hi) ((l.take (b.toNat * sz)).drop (a.toNat * sz))))
   | _, _, _ => .bad
 | .aq => match sl, cI 0 lo, cI 0 hi with
   | some (_, _), some a, some b => .cond (a = 0 /\ b = 0) (.val .aq)
   | _, _, _ => .bad
 | .ms b off n fI e => match sl, cI 0 lo, cI n hi with
   | some (_, sz), some a, some h => .cond (0 <= a /\ a <= h /\ h <= n /\ (a < n \/ a = 0) /\ fI = sz) (.val (.ms b (off + a.toNat * sz) (h.toNat - a.toNat) fI e))
   | _, _, _ => .bad
 | _ => .bad
def af (ft : Option Nat) (p : AV) : aA :=
 match ft, p with
 | some o, .box b off => .val (.box b (off + o))
 | some o, .bL l => .val (.bL (l.drop o))
 | _, _ => .bad
def pd (fv : Option (Nat × Bool × Nat)) (x : AV) : aA :=
 match fv, x with
 | some (o, true, n), .agg l => .cond (o + n <= l.length) (.val (.agg ((l.drop o).take n)))
 | some (o, false, _), .agg l => eR (l.drop o)
 | _, _ => .bad
def PO (at_ : Option (Nat × TypeId × Nat)) (x i : AV) : aA :=
 match at_, x, i with
 | some (n, _, sz), .bL l, .int _ j => .cond (0 <= j /\ j < n) (.val (.bL (l.drop (j.toNat * sz))))
 | some (n, _, sz), .box b off, .int _ j => .cond (0 <= j /\ j < n) (.val (.box b (off + j.toNat * sz)))
 | _, _, _ => .bad
def aJ (sl : Option (TypeId × Nat)) (at_ : Option (Nat × TypeId × Nat)) (x i : AV) : aA :=
 match sl, x, i with
 | none, x, i => PO at_ x i
 | some (_, sz), .vec n _ l, .int _ j => .cond (0 <= j /\ j < n) (.val (.bL (l.drop (j.toNat * sz))))
 | some (_, sz), .ms b off n fI _, .int _ j => .cond (0 <= j /\ j < n /\ fI = sz) (.val (.box b (off + j.toNat * sz)))
 | _, _, _ => .bad
def ff (st : Bool) (at_ : Option (Nat × TypeId × Nat)) (vt : Option (Bool × Nat)) (x i : AV) : aA :=
 match x, i with
 | .str s, .int _ j => if st = true then .cond (0 <= j /\ j < s.length) (.val (.int .u8 (s.getD j.toNat 0).toNat)) else .bad
 | .agg l, .int _ j => match at_ with
   | some (n, e, sz) => match vt with
     | some (false, _) => .cond (0 <= j /\ j < n) (eR (l.drop (j.toNat * sz)))
     | some (true, k) => .cond (0 <= j /\ j < n /\ k = sz /\ j.toNat * sz + sz <= l.length) (.val (.agg ((l.drop (j.toNat * sz)).take sz)))
     | none => .bad
   | none => .bad
 | _, _ => .bad
def rI (b : Bool) (t : TypeId) (x : AV) : aA := if b = true then .val (.iface t x) else .bad
def tR (mt : Option (FK × TypeId)) (m : AV) : aA :=
 match mt, m with
 | some _, .dL ks vs => .new .it none (.iter (ks.zip vs) none)
 | _, _ => .bad
def qg (z : Option AV) (x : AV) (t : TypeId) (ok : Bool) : aA :=
 match z, x with
 | some z, .iface u v => if u = t then .val (if ok then .aL [v, .bool true] else v) else if ok then .val (.aL [z, .bool false]) else .bad
 | some z, .cg => if ok then .val (.aL [z, .bool false]) else .bad
 | _, _ => .bad
def mw (sl : Option (TypeId × Nat)) (z : Option (List AV)) (mu : Bool) (l c : AV) : aA :=
 match sl, l, c with
 | some (e, sz), .int _ l, .int _ c => match z with
   | some z => .cond (0 <= l /\ l = c /\ c <= 65536) (if mu then .ku l.toNat sz e none (bp l.toNat z) else .jy l.toNat (bp l.toNat z) none ⟨l.toNat, e, sz⟩)
   | none => .bad
 | _, _, _ => .bad
def wm (sl : Option (TypeId × Nat)) (z : Option (List AV)) (x : AV) (U : St) : aA :=
 match sl, x with
 | some (e, sz), .ms b off n fI _ => match U.box b, z with
   | some l, some z => .cond (fI = sz /\ off + n * sz <= l.length) (.ir (.aL []) b (.box (aB l off (bp n z))))
   | _, _ => .bad
 | _, _ => .bad
def bZ (lt : Option Bool) (x : AV) : aA :=
 match lt, x with
 | some true, .str s => .val (.int .i64 s.length)
 | some false, .vec n _ _ => .val (.int .i64 n)
 | some false, .ms _ _ n _ _ => .val (.int .i64 n)
 | some false, .aq => .val (.int .i64 0)
 | _, _ => .bad
def eN (ap : Option (TypeId × Nat)) (mu : Bool) (s y : AV) (U : St) : aA :=
 match ap, nL U y with
 | some (e, sz), some (m, l2) =>
   .cond (l2.length = m * sz) (match s with
   | .aq => if m = 0 then .val .aq else .cond (m <= 4294967296) (if mu then .ku m sz e none l2 else .jy m l2 none ⟨m, e, sz⟩)
   | .vec n .full l => if m = 0 then .val s else .cond (l.length = n * sz /\ n + m <= 4294967296) (.jy (n + m) (l ++ l2) none ⟨n + m, e, sz⟩)
   | .vec n (.own τ) l => .cond (U.tok τ = some ⟨n, e, sz⟩ /\ l.length = n * sz /\ n + m <= 4294967296) (.jy (n + m) (l ++ l2) (some τ) ⟨n + m, e, sz⟩)
   | .ms b off n fI e' => match U.box b with
     | some l => .cond (off = 0 /\ fI = sz /\ e' = e /\ n * sz <= l.length /\ n + m <= 4294967296) (.ku (n + m) sz e (some b) (l.take (n * sz) ++ l2))
     | none => .bad
   | _ => .bad)
 | _, _ => .bad
structure BT where
 b : Bool
 i : Bool
 p : Bool
 f : Option (List FK)
 s : Bool
def PU (P : Program) (t : TypeId) : BT := ⟨qH P t, gB P t, iI P t, Ej P t, lC P t⟩
def Ut (f : Option (List FK)) (a b : List AV) : Option Bool :=
 match f with
 | some ks => kT ks a b
 | none => none
def aw (op : BinOp) (bt : BT) (lit : Bool) (x y : AV) : aA :=
 match op, x, y with
 | .eql, .cg, .cg => if bt.i = true /\ lit = true then .val (.bool true) else .bad
 | .neq, .cg, .cg => if bt.i = true /\ lit = true then .val (.bool false) else .bad
 | .add, .int k a, .int k' b => if k = k' then eZ k (a + b) else .bad
 | .sub, .int k a, .int k' b => if k = k' then eZ k (a - b) else .bad
 | .mul, .int k a, .int k' b => if k = k' then eZ k (a * b) else .bad
 | .quo, .int k a, .int k' b => if k = k' then .cond (b ≠ 0) (eZ k (a.tdiv b)) else .bad
 | .rem, .int k a, .int k' b => if k = k' then .cond (b ≠ 0) (.val (.int k (a.tmod b))) else .bad
 | .and, .int k a, .int k' b => if k = k' then .val (.int k (k.wrap (BitVec.ofInt k.bits a &&& BitVec.ofInt k.bits b).toNat)) else .bad
 | .or, .int k a, .int k' b => if k = k' then .val (.int k (k.wrap (BitVec.ofInt k.bits a ||| BitVec.ofInt k.bits b).toNat)) else .bad
 | .eql, .int k a, .int k' b => if k = k' then .val (.bool (a == b)) else .bad
 | .neq, .int k a, .int k' b => if k = k' then .val (.bool (a != b)) else .bad
 | .lss, .int k a, .int k' b => if k = k' then .val (.bool (decide (a < b))) else .bad
 | .leq, .int k a, .int k' b => if k = k' then .val (.bool (decide (a <= b))) else .bad
 | .gtr, .int k a, .int k' b => if k = k' then .val (.bool (decide (a > b))) else .bad
 | .geq, .int k a, .int k' b => if k = k' then .val (.bool (decide (a >= b))) else .bad
 | .eql, .str a, .str b => .val (.bool (a == b))
 | .neq, .str a, .str b => .val (.bool (a != b))
 | .add, .str a, .str b => .cond (a.length + b.length <= 4294967296) (.val (.str (a ++ b)))
 | .eql, .bool a, .bool b => if bt.b = true then .val (.bool (a == b)) else .bad
 | .neq, .bool a, .bool b => if bt.b = true then .val (.bool (a != b)) else .bad
 | .eql, .agg a, .agg b => sg .bool (Ut bt.f a b)
 | .neq, .agg a, .agg b => sg (fun r => .bool (!r)) (Ut bt.f a b)
 | .eql, .iface _ _, .cg => if bt.i = true then .val (.bool false) else .bad
 | .neq, .iface _ _, .cg => if bt.i = true then .val (.bool true) else .bad
 | .eql, .aR, .aR => if bt.p = true then .val (.bool true) else .bad
 | .eql, .box _ _, .aR => if bt.p = true then .val (.bool false) else .bad
 | .neq, .aR, .aR => if bt.p = true then .val (.bool false) else .bad
 | .neq, .box _ _, .aR => if bt.p = true then .val (.bool true) else .bad
 | .eql, .bL _, .aR => if bt.p = true then .val (.bool false) else .bad
 | .neq, .bL _, .aR => if bt.p = true then .val (.bool true) else .bad
 | .eql, .aq, .aq => if bt.s = true then .val (.bool true) else .bad
 | .eql, .vec _ _ _, .aq => if bt.s = true then .val (.bool false) else .bad
 | .eql, .ms _ _ _ _ _, .aq => if bt.s = true then .val (.bool false) else .bad
 | _, _, _ => .bad
theorem NH (P : Program) (op : BinOp) (t : TypeId) (lit : Bool) (x y : AV) : aw op (PU P t) lit x y = Am P op t lit x y := by
 unfold aw Am D3
 cases op <;> cases x <;> cases y <;> rfl
def q9 (P : Program) (t : TypeId) : Option (List AV) := match dk P t with
 | some (e, _) => ly P e
 | none => none
def Mb (P : Program) (t : TypeId) : Option (Bool × Nat) := match pR P t with
 | some (_, e, _) => jJ P e
 | none => none
def JR (P : Program) (t : TypeId) : Option AV := match mx P t with
 | some (_, e) => zeroV P e
 | none => none
def JW (gt : Option (TypeId × Nat × List AV)) (ap : Option (TypeId × Nat)) (mu : Bool) (s y : AV) (U : St) : aA :=
 match gt with
 | some q => zQ q mu s y
 | none => eN ap mu s y U
def D7 (C : bQ) (mu : Bool) (c : Call) (ρ : Env) (U : St) : aA :=
 match c.callee, c.argTypes.toList, c.args.toList with
 | .value (.func f), _, args => if cX C.P f = true then .enter f (args.map (ρ.ev C)) else .bad
 | .value f, _, args => eT C.P (ρ.ev C f) (args.map (ρ.ev C))
 | .builtin .len, [t], [x] => bZ (ET C.P t) (ρ.ev C x)
 | .builtin .append, [t, u], [s, y] => JW (wC C.P t u) (D1 C.P t u) mu (ρ.ev C s) (ρ.ev C y) U
 | .builtin .cap, [t], [x] => As (dk C.P t) (ρ.ev C x)
 | .builtin .min, _, [x, y] => tA (ρ.ev C x) (ρ.ev C y)
 | .builtin .max, _, [x, y] => vG (ρ.ev C x) (ρ.ev C y)
 | .builtin .clear, [t], [x] => wm (dk C.P t) (q9 C.P t) (ρ.ev C x) U
 | _, _, _ => .bad
def qM (C : bQ) (mu : Bool) (o : Op) (ρ : Env) (U : St) : aA :=
 match o with
 | .move x | .assign x => .val (ρ.ev C x)
 | .pick c a b => bu (ρ.ev C c) (ρ.ev C a) (ρ.ev C b)
 | .alloc t => OP t (ly C.P t)
 | .box _ x => eB (ρ.ev C x)
 | .build t parts => dO (uE C.P t) (ly C.P t) (pR C.P t) (iB C ρ parts)
 | .buildSlice t n parts => aD (dk C.P t) (q9 C.P t) n mu (iB C ρ parts)
 | .insert t m k v | .mapUpdate t m k v => gk (mx C.P t) (ρ.ev C m) (ρ.ev C k) (ρ.ev C v) U
 | .load t a => ao (jJ C.P t) (ρ.ev C a) U
 | .store t a v => aM (jJ C.P t) (ρ.ev C a) (ρ.ev C v) U
 | .nilCheck x => a8 (ρ.ev C x)
 | .binOp op t x y _ => aw op (PU C.P t) (isLit x || isLit y) (ρ.ev C x) (ρ.ev C y)
 | .unOp op _ x => gL op (ρ.ev C x)
 | .convert s d x => zP (EJ C.P d) (C.P.underlying s).isSome (jv C.P d && jv C.P s) (rD C.P d && jv C.P s) (ρ.ev C x)
 | .makeInterface t x => rI (tD C.P t) t (ρ.ev C x)
 | .makeFunc fn first cap => .val (.func fn (first.toList.map (ρ.ev C)) (cap.toList.map (ρ.ev C)))
 | .makeMap _ none => .zT
 | .slice t x lo hi none => fi (jv C.P t) (dk C.P t) (ρ.ev C x) (lo.map (ρ.ev C)) (hi.map (ρ.ev C))
 | .fieldAddr s x f => af (s8 C.P s f) (ρ.ev C x)
 | .field s x f => pd (uq C.P s f) (ρ.ev C x)
 | .indexAddr t x i => aJ (dk C.P t) (pR C.P t) (ρ.ev C x) (ρ.ev C i)
 | .index t x i => ff (jv C.P t) (pR C.P t) (Mb C.P t) (ρ.ev C x) (ρ.ev C i)
 | .lookup t m k ok => ez (mx C.P t) (JR C.P t) (ρ.ev C m) (ρ.ev C k) ok U
 | .extract t i => aV (ρ.ev C t) i
 | .panic x => oW (ρ.ev C x)
 | .range t m => tR (mx C.P t) (ρ.ev C m)
 | .typeAssert x _ t ok => qg (uj C.P t) (ρ.ev C x) t ok
 | .makeSlice t l c => mw (dk C.P t) (q9 C.P t) mu (ρ.ev C l) (ρ.ev C c)
 | .next i false => oa (ρ.ev C i) U
 | .entry i => kS (ρ.ev C i) U
 | .call c => D7 C mu c ρ U
 | _ => .bad
theorem J0 (C : bQ) (mu : Bool) (c : Call) (ρ : Env) (U : St) : D7 C mu c ρ U = uk C mu c ρ U := by
 unfold D7 uk
 obtain ⟨callee, ⟨args⟩, ⟨No⟩⟩ := c
 cases callee with
 | value f =>
   cases f <;> simp only [eT, Env.ev, iN, jI]
 | invoke r m => rfl
 | builtin b =>
   cases b
   case clear =>
    dsimp only
    rcases No with _ | ⟨t, _ | ⟨u, _ | _⟩⟩ <;> rcases args with _ | ⟨x, _ | ⟨y, _ | _⟩⟩ <;> try rfl
    simp only [wm, sW, q9]
    generalize ρ.ev C x = y
    cases h : dk C.P t with
    | none => rfl
    | some es => (cases es; cases y <;> rfl)
   all_goals first | rfl | (dsimp only; rcases No with _ | ⟨t, _ | ⟨u, _ | _⟩⟩ <;> rcases args with _ | ⟨x, _ | ⟨y, _ | _⟩⟩ <;> rfl)
theorem oV (C : bQ) (mu : Bool) (o : Op) (ρ : Env) (U : St) : qM C mu o ρ U = fR C mu o ρ U := by
 cases o with
 | binOp op t x y yt => exact NH _ _ _ _ _ _
 | call c => exact J0 _ _ _ _ _
 | buildSlice t n parts =>
   simp only [qM, fR, aD, nc, q9]
   cases h : dk C.P t with
   | none => rfl
   | some es => (cases es; rfl)
 | index t x i =>
   simp only [qM, fR, ff, wO, Mb]
   generalize ρ.ev C x = y
   generalize ρ.ev C i = z
   cases h : pR C.P t with
   | none => cases y <;> rfl
   | some es => (cases es; cases y <;> cases z <;> rfl)
 | lookup t m k ok =>
   simp only [qM, fR, ez, qJ, JR]
   generalize jb U (ρ.ev C m) = y
   cases h : mx C.P t with
   | none => rfl
   | some es => (cases es; cases y <;> rfl)
 | makeSlice t l c =>
   simp only [qM, fR, mw, n6, q9]
   generalize ρ.ev C l = y
   generalize ρ.ev C c = z
   cases h : dk C.P t with
   | none => rfl
   | some es => (cases es; cases y <;> cases z <;> rfl)
 | convert s d x =>
   simp only [qM, fR, zP, zO, bF]
   rfl
 | makeMap t r => cases r <;> rfl
 | slice t x lo hi m => cases m <;> rfl
 | next i b => cases b <;> rfl
 | _ => rfl
end Go.Rip
namespace Go.Rip
open Go.RowKit
def Fn : Nat -> Type
 | 0 => St -> Prop
 | n + 1 => AV -> Fn n
namespace Fn
def app : (n : Nat) -> Fn n -> List AV -> St -> Prop
 | 0, f, _, U => f U
 | n + 1, f, x :: xs, U => app n (f x) xs U
 | n + 1, f, [], U => app n (f .any) [] U
def lam : (n : Nat) -> (List AV -> St -> Prop) -> Fn n
 | 0, F => fun U => F [] U
 | n + 1, F => fun x => lam n (fun xs U => F (x :: xs) U)
theorem lL : ∀ (n : Nat) (F : List AV -> St -> Prop) (xs : List AV) (U : St), xs.length = n -> app n (lam n F) xs U = F xs U
 | 0, F, [], U, _ => rfl
 | n + 1, F, x :: xs, U, h => lL n (fun xs U => F (x :: xs) U) xs U (by simpa using h)
 | 0, F, _ :: _, U, h => by simp at h
 | n + 1, F, [], U, h => by simp at h
def imp : (n : Nat) -> Fn n -> Fn n -> Prop
 | 0, f, g => ∀ U, f U -> g U
 | n + 1, f, g => ∀ x, imp n (f x) (g x)
theorem Dz : ∀ {n : Nat} {f g : Fn n}, imp n f g -> ∀ (xs : List AV) (U : St), xs.length = n -> app n f xs U -> app n g xs U
 | 0, f, g, h, xs, U, _, hf => h U hf
 | n + 1, f, g, h, x :: xs, U, hl, hf => Dz (h x) xs U (by simpa using hl) hf
 | n + 1, f, g, h, [], U, hl, hf => by simp at hl
theorem C5 : ∀ {n : Nat} {f g : Fn n}, (∀ (xs : List AV) (U : St), xs.length = n -> app n f xs U -> app n g xs U) -> imp n f g
 | 0, f, g, h => fun U hf => h [] U rfl hf
 | n + 1, f, g, h => fun x => C5 fun xs U hl hf => h (x :: xs) U (by simpa using hl) hf
end Fn
def wT : List Nat -> List AV -> Nat -> AV
 | s :: ss, x :: xs, t => cond (Nat.beq t s) x (wT ss xs t)
 | _, _, _ => .any
def xX (live : List Nat) (vs : List AV) : Env := ⟨wT live vs⟩
theorem zk (f : Nat -> AV) (t : Nat) : ∀ live : List Nat, wT live (live.map f) t = f t \/ wT live (live.map f) t = .any
 | [] => .inr rfl
 | s :: ss => by
   simp only [de, wT]
   cases h : Nat.beq t s with
   | true => have := dr h; subst this; exact .inl rfl
   | false => exact zk f t ss
theorem yO (ρ : Env) (live : List Nat) (t : Nat) : (xX live (live.map ρ.get)).get t = ρ.get t \/ (xX live (live.map ρ.get)).get t = .any := zk ρ.get t live
section
variable {C : bQ} {nt : Nat} {ro : Ro} {U : St} {ρ : Env}
theorem aY.DV {c : Code} {Q : Ex -> Env -> St -> Prop} {cO : Env} (h : aY C nt ro c Q cO U) (hw : ∀ t, cO.get t = ρ.get t \/ cO.get t = .any) : aY C nt ro c Q ρ U :=
 fun g w a fr h1 h2 h3 h4 h5 => h g w a fr h1 h2 (fun t => by
  rcases hw t with e | e
  · rw [e]; exact h3 t
  · rw [e]; simp only [ak]) h4 h5
end
structure Qx where
 n : Env -> St -> Prop
 e : Nat -> Env -> St -> Prop
 r : Env -> St -> Prop
 p : AV -> St -> Prop
def Qx.q (Q : Qx) : Ex -> Env -> St -> Prop
 | .normal, ρ, U => Q.n ρ U
 | .exit i, ρ, U => Q.e i ρ U
 | .ret, ρ, U => Q.r ρ U
 | .panic x, _, U => Q.p x U
def Tq (ops : Array Oper) (j : Nat) : Option Nat := (ops[j]?).bind (·.dst)
def aF (v : AV) (want : Bool) : AV := match v with
 | .bool b => .bool (b == want)
 | .aL [] => .bool false
 | _ => .any
def AG (ops : Array Oper) (ρ : Env) (jw : Nat × Bool) : AV := match Tq ops jw.1 with
 | some d => aF (ρ.get d) jw.2
 | none => .any
theorem AH (ops : Array Oper) (ρ : Env) (jw : Nat × Bool) : eQ ops ρ (some jw) = AG ops ρ jw := rfl
def yw (b : Bool) (v : AV) : AV := match b with
 | true => v
 | false => .aL []
def c8 (C : bQ) (b : Bool) : aA -> (AV -> Prop) -> Prop
 | .val v, k => k (yw b v)
 | @aA.cond p _ r, k => (b = true -> p) /\ c8 C b r k
 | .enter f args, k => ∃ v, (b = true -> Pure C f args v) /\ k (yw b v)
 | _, k => b = false /\ k (.aL [])
def ah (C : bQ) (gv : AV) (r : aA) (k : AV -> Prop) : Prop := match gv with
 | .bool b => c8 C b r k
 | _ => False
theorem u6 {C : bQ} : ∀ (r : aA) {k : AV -> Prop}, c8 C true r k -> ∃ v, r.yv C v /\ k v
 | .val v, k, h => ⟨v, rfl, h⟩
 | @aA.cond _ _ r, k, h => let ⟨v, h1, h2⟩ := u6 r h.2; ⟨v, ⟨h.1 rfl, h1⟩, h2⟩
 | .enter _ _, k, h => let ⟨v, h1, h2⟩ := h; ⟨v, h1 rfl, h2⟩
 | .ir _ _ _, _, h => by cases h.1
 | .new _ _ _, _, h => by cases h.1
 | .gT _ _, _, h => by cases h.1
 | .yield _ _, _, h => by cases h.1
 | .panic _, _, h => by cases h.1
 | .bad, _, h => by cases h.1
theorem tK {C : bQ} : ∀ (r : aA) {k : AV -> Prop}, c8 C false r k -> k (.aL [])
 | .val v, k, h => h
 | @aA.cond _ _ r, k, h => tK r h.2
 | .enter _ _, k, h => let ⟨v, h1, h2⟩ := h; h2
 | .ir _ _ _, _, h => h.2
 | .new _ _ _, _, h => h.2
 | .gT _ _, _, h => h.2
 | .yield _ _, _, h => h.2
 | .panic _, _, h => h.2
 | .bad, _, h => h.2
theorem tL {C : bQ} {gv : AV} {r : aA} {k : AV -> Prop} (h : ah C gv r k) : (gv = .bool true /\ ∃ v, r.yv C v /\ k v) \/ (gv = .bool false /\ k (.aL [])) := by
 cases gv <;> simp only [ah] at h
 rename_i b
 cases b
 · exact .inr ⟨rfl, tK r h⟩
 · exact .inl ⟨rfl, u6 r h⟩
def Rr (pf : List Nat) (o : Op) : Bool := match o with
 | .call c => match c.callee with
   | .value (.func f) => pf.any fun g => Nat.beq g f
   | .value _ => false
   | _ => quiet o
 | o => quiet o
def Bi (C : bQ) (o : Op) (ρ : Env) : Option AV := match o with
 | .move x | .assign x => some (ρ.ev C x)
 | .makeFunc fn first cap => some (.func fn (first.toList.map (ρ.ev C)) (cap.toList.map (ρ.ev C)))
 | _ => none
theorem ye {C : bQ} {o : Op} {ρ : Env} {v : AV} (h : Bi C o ρ = some v) (mu : Bool) (U : St) : qM C mu o ρ U = .val v := by
 unfold Bi at h
 split at h
 · cases h; rfl
 · cases h; rfl
 · cases h; rfl
 · cases h
def p6 (C : bQ) (mu pf : List Nat) (ops : Array Oper) : List Oper -> Env -> St -> (Env -> St -> Prop) -> (AV -> St -> Prop) -> Prop
 | [], ρ, U, K, _ => K ρ U
 | o :: rest, ρ, U, K, Kp => match o.guard with
   | none => match Bi C o.op ρ with
     | some v => p6 C mu pf ops rest (ρ.dc o.dst v) U K Kp
     | none => (qM C (lF mu o) o.op ρ U).wp C U (fun v U => p6 C mu pf ops rest (ρ.dc o.dst v) U K Kp) Kp
   | some jw => match Rr pf o.op with
     | true => ah C (AG ops ρ jw) (qM C (lF mu o) o.op ρ U) (fun v => p6 C mu pf ops rest (ρ.dc o.dst v) U K Kp)
     | false => ay (AG ops ρ jw) ((qM C (lF mu o) o.op ρ U).wp C U (fun v U => p6 C mu pf ops rest (ρ.dc o.dst v) U K Kp) Kp)
       (p6 C mu pf ops rest (ρ.dc o.dst (.aL [])) U K Kp)
theorem qN {C : bQ} {mu pf : List Nat} {ops : Array Oper} {K : Env -> St -> Prop} {Kp : AV -> St -> Prop} : ∀ (l : List Oper) (ρ : Env) (U : St),
 p6 C mu pf ops l ρ U K Kp -> kL C mu ops l ρ U K Kp
 | [], _, _, h => h
 | o :: rest, ρ, U, h => by
   have step : ∀ {r : aA}, r.wp C U (fun v U => p6 C mu pf ops rest (ρ.dc o.dst v) U K Kp) Kp ->
    r.wp C U (fun v ad => kL C mu ops rest (ρ.dc o.dst v) ad K Kp) Kp := fun hr => aA.wp_mono (fun v ad hv => qN rest _ _ hv) _ hr
   simp only [p6] at h
   simp only [kL]
   show ay (eQ ops ρ o.guard) ((fR C (lF mu o) o.op ρ U).wp C U (fun v ad => kL C mu ops rest (ρ.dc o.dst v) ad K Kp) Kp) (kL C mu ops rest (ρ.dc o.dst (.aL [])) U K Kp)
   rw [<- oV]
   cases hg : o.guard with
   | none =>
     rw [hg] at h
     simp only at h
     refine ⟨fun _ => ?_, fun hf => (by cases hf)⟩
     split at h
     · rename_i v hv
       rw [ye hv]
       exact qN rest _ _ h
     · exact step h
   | some jw =>
     rw [hg] at h
     simp only at h
     rw [AH]
     split at h
     · rcases tL h with ⟨hb, v, hv, hk⟩ | ⟨hb, hk⟩
       · rw [hb]
         refine ⟨fun _ => ?_, fun hf => (by cases hf)⟩
         exact aA.FR _ hv (qN rest _ _ hk)
       · rw [hb]
         exact ⟨fun hf => (by cases hf), fun _ => qN rest _ _ hk⟩
     · cases hv : AG ops ρ jw <;> rw [hv] at h <;> simp only [ay] at h ⊢
       exact ⟨fun e => step (h.1 e), fun e => qN rest _ _ (h.2 e)⟩
def av (C : bQ) : aA -> (AV -> Prop) -> Prop
 | .val v, k => k v
 | @aA.cond p _ r, k => p /\ av C r k
 | .enter f args, k => ∃ v, Pure C f args v /\ k v
 | _, _ => False
theorem zp {C : bQ} : ∀ (r : aA) {k : AV -> Prop}, av C r k -> ∃ v, r.yv C v /\ k v
 | .val v, k, h => ⟨v, rfl, h⟩
 | @aA.cond _ _ r, k, h => let ⟨v, h1, h2⟩ := zp r h.2; ⟨v, ⟨h.1, h1⟩, h2⟩
 | .enter _ _, k, h => h
 | .ir _ _ _, _, h => h.elim
 | .new _ _ _, _, h => h.elim
 | .gT _ _, _, h => h.elim
 | .yield _ _, _, h => h.elim
 | .panic _, _, h => h.elim
 | .bad, _, h => h.elim
def AL (C : bQ) (ρ : Env) (o : Op) : List Nat := o.operands.toList.flatMap fun x => cQ (ρ.ev C x)
def Ru (b : Bool) (P k : Prop) : Prop := match b with
 | true => P /\ k
 | false => k
def Q4 (b : Bool) (P k : Prop) : Prop := match b with
 | true => k
 | false => P /\ k
theorem G5 {ops : Array Oper} {i : Nat} {I : St -> Prop} {U : St} {k : Prop} (h : Q4 (gS ops i) (I U) k) : Ix ops I i U /\ k := by
 unfold Ix
 cases ha : gS ops i <;> rw [ha] at h <;> simp only [Q4] at h
 · exact ⟨.inr h.1, h.2⟩
 · exact ⟨.inl rfl, h⟩
def xe (C : bQ) (ops : Array Oper) (ρ : Env) (g : Option (Nat × Bool)) (i : Option AV) (r : aA) (k : AV -> Prop) : Prop := match g with
 | none => match i with
   | some v => k v
   | none => av C r k
 | some jw => ah C (AG ops ρ jw) r k
def gW (ops : Array Oper) (ρ : Env) (g : Option (Nat × Bool)) (A B : Prop) : Prop := match g with
 | none => A
 | some jw => ay (AG ops ρ jw) A B
def pI (C : bQ) (mu : List Nat) (ops : Array Oper) (az : St) (K : Env -> St -> Prop) (Kp : AV -> St -> Prop) (B : List Nat) : List (Bool × Nat) -> Env -> St -> Prop
 | [], ρ, U => K ρ U
 | (true, i) :: r, ρ, U => match ops[i]? with
   | none => False
   | some o => match quiet o.op with
     | false => False
     | true => Ru (ky o.op) (∀ b ∈ AL C ρ o.op, b ∈ B) (xe C ops ρ o.guard (Bi C o.op ρ) (qM C (lF mu o) o.op ρ az) fun v => pI C mu ops az K Kp B r (ρ.dc o.dst v) U)
 | (false, i) :: r, ρ, U => match ops[i]? with
   | none => False
   | some o => gW ops ρ o.guard ((qM C (lF mu o) o.op ρ U).wp C U (fun v U => Q4 (gS ops i) (cn B az U) (pI C mu ops az K Kp B r (ρ.dc o.dst v) U)) Kp)
      (pI C mu ops az K Kp B r (ρ.dc o.dst (.aL [])) U)
def zV (C : bQ) (mu : List Nat) (ops : Array Oper) (az : St) (K : Env -> St -> Prop) (Kp : AV -> St -> Prop) : List (Bool × Nat) -> List Nat -> Env -> St -> Prop
 | [], _, ρ, U => K ρ U
 | (true, i) :: r, B, ρ, U => match ops[i]? with
   | none => False
   | some o => match quiet o.op with
     | false => False
     | true => xe C ops ρ o.guard (Bi C o.op ρ) (qM C (lF mu o) o.op ρ az) fun v => zV C mu ops az K Kp r (match ky o.op with | true => AL C ρ o.op ++ B | false => B) (ρ.dc o.dst v) U
 | (false, i) :: r, B, ρ, U => pI C mu ops az K Kp B ((false, i) :: r) ρ U
section
variable {C : bQ} {mu : List Nat} {ops : Array Oper} {az : St} {K : Env -> St -> Prop} {Kp : AV -> St -> Prop}
theorem Ki {ρ : Env} {g : Option (Nat × Bool)} {A B : Prop} (h : gW ops ρ g A B) : (eQ ops ρ g = .bool true /\ A) \/ (eQ ops ρ g = .bool false /\ B) := by
 unfold gW at h
 cases g with
 | none => exact .inl ⟨rfl, h⟩
 | some jw =>
   simp only at h
   rw [AH]
   cases hv : AG ops ρ jw <;> rw [hv] at h <;> simp only [ay] at h
   rename_i b
   cases b
   · exact .inr ⟨rfl, h.2 rfl⟩
   · exact .inl ⟨rfl, h.1 rfl⟩
theorem tM {ρ : Env} {g : Option (Nat × Bool)} {i : Option AV} {r : aA} {k : AV -> Prop} (hi : ∀ v, i = some v -> r = .val v) (h : xe C ops ρ g i r k) : (eQ ops ρ g = .bool true /\ ∃ v, r.yv C v /\ k v) \/ (eQ ops ρ g = .bool false /\ k (.aL [])) := by
 unfold xe at h
 cases g with
 | none =>
   cases i with
   | none => exact .inl ⟨rfl, zp r h⟩
   | some v => rw [hi v rfl]; exact .inl ⟨rfl, v, rfl, h⟩
 | some jw => simp only at h; rw [AH]; exact tL h
theorem wG {ρ : Env} {o : Op} {x : Operand} (hx : x ∈ o.operands.toList) {b : Nat} (hb : b ∈ cQ (ρ.ev C x)) : b ∈ AL C ρ o := List.mem_flatMap.2 ⟨x, hx, hb⟩
theorem ou (B : List Nat) : ∀ (l : List (Bool × Nat)) (ρ : Env) (U : St), pI C mu ops az K Kp B l ρ U -> jl C mu ops B az K Kp l ρ U
 | [], _, _, h => h
 | (true, i) :: r, ρ, U, h => by
   simp only [pI] at h
   split at h
   · exact h.elim
   · rename_i o ho
     split at h
     · exact h.elim
     · rename_i hq
       have key : ∀ {P k : Prop}, Ru (ky o.op) P k -> (ky o.op = true -> P) /\ k := fun {P k} h => by
        cases hr : ky o.op <;> rw [hr] at h <;> simp only [Ru] at h
        · exact ⟨fun h => (by cases h), h⟩
        · exact ⟨fun _ => h.1, h.2⟩
       obtain ⟨hB, h⟩ := key h
       rcases tM (fun v hv => ye hv _ _) h with ⟨hg, v, hv, hk⟩ | ⟨hg, hk⟩
       · rw [oV] at hv
         exact ⟨o, v, ho, .inl ⟨hg, hq, fun hr x hx b hb => hB hr b (wG hx hb), hv⟩, ou B r _ _ hk⟩
       · exact ⟨o, .aL [], ho, .inr ⟨hg, rfl⟩, ou B r _ _ hk⟩
 | (false, i) :: r, ρ, U, h => by
   simp only [pI] at h
   simp only [jl, kB]
   split at h
   · exact h.elim
   · rename_i o ho
     rw [ho]
     simp only
     rw [oV] at h
     rcases Ki h with ⟨hg, h⟩ | ⟨hg, h⟩
     · rw [hg]
       exact ⟨fun _ => aA.wp_mono (fun v U hv => ⟨(G5 (I := cn B az) hv).1, ou B r _ _ (G5 (I := cn B az) hv).2⟩) _ h, fun h => by cases h⟩
     · rw [hg]
       exact ⟨fun h => (by cases h), fun _ => ou B r _ _ h⟩
theorem yl : ∀ (l : List (Bool × Nat)) (B : List Nat) (ρ : Env) (U : St), zV C mu ops az K Kp l B ρ U -> ∃ B', (∀ b ∈ B, b ∈ B') /\ jl C mu ops B' az K Kp l ρ U
 | [], B, _, _, h => ⟨B, fun _ h => h, h⟩
 | (true, i) :: r, B, ρ, U, h => by
   simp only [zV] at h
   split at h
   · exact h.elim
   · rename_i o ho
     split at h
     · exact h.elim
     · rename_i hq
       rcases tM (fun v hv => ye hv _ _) h with ⟨hg, v, hv, hk⟩ | ⟨hg, hk⟩
       · rw [oV] at hv
         obtain ⟨B', hB, hA⟩ := yl r _ _ _ hk
         refine ⟨B', fun b hb => hB b ?_, o, v, ho, .inl ⟨hg, hq, fun hr x hx b hb => hB b ?_, hv⟩, hA⟩
         · split
           · exact List.mem_append_right _ hb
           · exact hb
         · rw [hr]; exact List.mem_append_left _ (wG hx hb)
       · obtain ⟨B', hB, hA⟩ := yl r _ _ _ hk
         refine ⟨B', fun b hb => hB b ?_, o, .aL [], ho, .inr ⟨hg, rfl⟩, hA⟩
         split
         · exact List.mem_append_right _ hb
         · exact hb
 | (false, i) :: r, B, ρ, U, h => ⟨B, fun _ h => h, ou B _ _ _ h⟩
end
structure Qr where
 Bw : (St -> Prop) -> St -> Prop
 n : St -> Prop
 e : Nat -> St -> Prop
 r : St -> Prop
def nM : Nat -> Type
 | 0 => Qr -> St -> Prop
 | n + 1 => AV -> nM n
def nM.app : (n : Nat) -> nM n -> List AV -> Qr -> St -> Prop
 | 0, f, _, q, U => f q U
 | n + 1, f, x :: xs, q, U => nM.app n (f x) xs q U
 | n + 1, f, [], q, U => nM.app n (f .any) [] q U
def nM.lam : (n : Nat) -> (List AV -> Qr -> St -> Prop) -> nM n
 | 0, F => fun q U => F [] q U
 | n + 1, F => fun x => nM.lam n (fun xs q U => F (x :: xs) q U)
theorem nM.lL : ∀ (n : Nat) (F : List AV -> Qr -> St -> Prop) (xs : List AV) (q : Qr) (U : St), xs.length = n -> nM.app n (nM.lam n F) xs q U = F xs q U
 | 0, F, [], q, U, _ => rfl
 | n + 1, F, x :: xs, q, U, h => nM.lL n (fun xs U => F (x :: xs) U) xs q U (by simpa using h)
 | 0, F, _ :: _, q, U, h => by simp at h
 | n + 1, F, [], q, U, h => by simp at h
def eg.st (L : eg) (s : LoopState) (p : Option Code) : eg := { L with state := s, dN := p }
def Ww (o : Nat) (k : St -> Prop) (U : St) : Prop := ∃ L, U.loop o = some L /\ L.state = .ready /\ k (U.set o (.loop { L with state := .busy }))
def Wy (o : Nat) (R : cm -> St -> Prop) : Qr where
 Bw := Ww o
 n := fun U => ∃ L, U.loop o = some L /\ R (.ret (.bool true)) (U.set o (.loop { L with state := .ready, dN := none }))
 e := fun id U => ∃ L, U.loop o = some L /\ R (.ret (.bool false)) (U.set o (.loop { L with state := .done, dN := some (.exit id) }))
 r := fun U => ∃ L, U.loop o = some L /\ R (.ret (.bool false)) (U.set o (.loop { L with state := .done, dN := some .ret }))
def HD (o : Nat) (Kn : St -> Prop) (Ke : Nat -> St -> Prop) (Kr : St -> Prop) (Kp : AV -> St -> Prop) : cm -> St -> Prop
 | .ret _, ad => ∃ L, ad.loop o = some L /\ L.state ≠ .busy /\ (match L.dN with
   | none => Kn (ad.del o)
   | some .ret => Kr (ad.del o)
   | some (.exit id) => Ke id (ad.del o)
   | _ => False)
 | .panic x, ad => Kp x ad
def oZ (C : bQ) (np : Nat) (fv : AV) (U : St) (B : nM np) (Kn : St -> Prop) (Ke : Nat -> St -> Prop) (Kr : St -> Prop) (Kp : AV -> St -> Prop) : Prop :=
 match fv with
 | .func (.func gd) first cap => cX C.P gd = true /\ ∀ (o : Nat) (L : eg), U.cj o -> L.state = .ready -> L.dN = none ->
   (∀ (args : List AV) (bM : St) (R : cm -> St -> Prop) (L1 : eg), args.length = np -> bM.loop o = some L1 -> L1.st .ready none = L -> nM.app np B args (Wy o R) bM -> iy C o args bM R) ->
   ae C gd (first ++ [.nB o] ++ cap) (U.new o (.loop L)) (HD o Kn Ke Kr Kp)
 | _ => False
def Dc (b : Bool) (A B : Prop) : Prop := match b with
 | true => A
 | false => B
def ko (n : Nat) (J : Fn n) (B : Fn n -> Prop) : Prop := ∀ j : Fn n, Fn.imp n J j -> B j
def dQ (n : Nat) (init : List AV) (U : St) (B : Fn n -> Fn n) : Prop :=
 ∃ I : Nat -> Fn n, (∃ m, Fn.app n (I m) init U) /\ ∀ m, Fn.imp n (I m) (B (Fn.lam n fun vs U => ∃ m', m' < m /\ Fn.app n (I m') vs U))
inductive An where
 | z
 | sq (live : Option (List Nat)) (a b : An)
 | cd (a b : An)
 | bk (a : An)
 | lp (live : List Nat) (a : An)
 | rg (mu pf : List Nat) (ct : Option Pl)
 | rb (mu : List Nat) (ct : Pl)
 | rf (a b : An)
def kh (C : bQ) : Code -> An -> Qx -> Env -> St -> Prop
 | .skip, _, Q, ρ, U => Q.n ρ U
 | .exit i, _, Q, ρ, U => Q.e i ρ U
 | .ret, _, Q, ρ, U => Q.r ρ U
 | .seq a b, .sq none x y, Q, ρ, U => kh C a x { Q with n := fun ρ U => kh C b y Q ρ U } ρ U
 | .seq a b, .sq (some live) x y, Q, ρ, U => ko live.length (Fn.lam live.length fun vs U => kh C b y Q (xX live vs) U)
    fun j => kh C a x { Q with n := fun ρ U => Fn.app live.length j (live.map ρ.get) U } ρ U
 | .cond c a b, .cd x y, Q, ρ, U => ay (ρ.ev C c) (kh C a x Q ρ U) (kh C b y Q ρ U)
 | .block i a, .bk x, Q, ρ, U => kh C a x { Q with e := fun k ρ U => Dc (Nat.beq k i) (Q.n ρ U) (Q.e k ρ U) } ρ U
 | .loop a, .lp live x, Q, ρ, U => dQ live.length (live.map ρ.get) U fun lp => Fn.lam live.length fun vs U =>
    kh C a x { Q with n := fun ρ U => Fn.app live.length lp (live.map ρ.get) U } (xX live vs) U
 | .region _ ops false, .rg mu pf none, Q, ρ, U => p6 C mu pf ops ops.toList ρ U Q.n Q.p
 | .region _ ops true, .rg mu pf (some ct), Q, ρ, U => zV C mu ops U Q.n Q.p ct.steps [] ρ U
 | .region _ ops true, .rb mu ct, Q, ρ, U => ∃ B : List Nat, pI C mu ops U Q.n Q.p B ct.steps ρ U
 | .rangeFunc f ps a b, .rf x y, Q, ρ, U => oZ C ps.size (ρ.ev C f) U (nM.lam ps.size fun args qr U => kh C a x
    { n := fun ρ U => qr.Bw (fun U => kh C b y { n := fun _ U => qr.n U, e := fun i _ U => qr.e i U, r := fun _ U => qr.r U, p := fun _ _ => False } ρ U) U, e := fun _ _ _ => False, r := fun _ _ => False, p := fun _ _ => False }
    ⟨rT ρ.get ps.toList args⟩ U) (fun U => Q.n ρ U) (fun i U => Q.e i ρ U) (fun U => Q.r ρ U) (fun x U => Q.p x U)
 | _, _, _, _, _ => False
def iY (nt : Nat) : Bool -> Code -> An -> Bool
 | _, .skip, _ => true
 | _, .exit _, _ => true
 | _, .ret, _ => true
 | top, .seq a b, .sq _ x y => iY nt top a x && iY nt top b y
 | top, .cond _ a b, .cd x y => iY nt top a x && iY nt top b y
 | top, .block _ a, .bk x => iY nt top a x
 | top, .loop a, .lp _ x => iY nt top a x
 | _, .region _ ops false, .rg _ _ none => jk nt ops
 | _, .region _ ops true, .rg _ _ (some ct) => jk nt ops && Fg ops ct
 | _, .region _ ops true, .rb _ ct => jk nt ops && Fg ops ct
 | top, .rangeFunc _ ps a b, .rf x y => top && ps.toList.all (fun t => Nat.blt t nt) && iY nt false a x && iY nt false b y
 | _, _, _ => false
theorem uf {C : bQ} {nt : Nat} (hm : C.P.follows .mixedOrders = true) : ∀ (c : Code) (an : An) (top : Bool) (ro : Ro) (Q : Qx) (ρ : Env) (U : St), iY nt top c an = true -> (top = true -> ro = .fn) ->
 kh C c an Q ρ U -> aY C nt ro c Q.q ρ U := by
 intro c
 induction c with
 | skip => intro an top ro Q ρ U bV ht h; exact aY.skip h
 | exit i => intro an top ro Q ρ U bV ht h; exact aY.exit h
 | ret => intro an top ro Q ρ U bV ht h; exact aY.ret h
 | seq a b tt Dx =>
   intro an top ro Q ρ U bV ht h
   cases an <;> simp only [iY, bl, bF] at bV
   rename_i live x y
   refine aY.seq ?_
   cases live with
   | none =>
     simp only [kh] at h
     refine (tt x top ro _ ρ U bV.1 ht h).mono fun e ρ U he => ?_
     cases e <;> first | exact Dx y top ro Q ρ U bV.2 ht he | exact he
   | some live =>
     simp only [kh] at h
     have := h (Fn.lam live.length fun vs U => aY C nt ro b Q.q (xX live vs) U) (Fn.C5 fun xs U hl hx => by
      rw [Fn.lL _ _ _ _ hl] at hx ⊢
      exact Dx y top ro Q _ _ bV.2 ht hx)
     refine (tt x top ro _ ρ U bV.1 ht this).mono fun e ρ U he => ?_
     cases e with
     | normal =>
       have iq : Fn.app live.length (Fn.lam live.length fun vs U => aY C nt ro b Q.q (xX live vs) U) (live.map ρ.get) U := he
       rw [Fn.lL _ _ _ _ (by simp)] at iq
       exact aY.DV iq (yO ρ live)
     | exit i => exact he
     | ret => exact he
     | panic x => exact he
 | cond c a b tt Dx =>
   intro an top ro Q ρ U bV ht h
   cases an <;> simp only [iY, bl, bF] at bV
   rename_i x y
   simp only [kh] at h
   cases hc : ρ.ev C c <;> rw [hc] at h <;> simp only [ay] at h
   exact aY.cond hc (fun e => tt x top ro Q ρ U bV.1 ht (h.1 e)) (fun e => Dx y top ro Q ρ U bV.2 ht (h.2 e))
 | block i a tt =>
   intro an top ro Q ρ U bV ht h
   cases an <;> simp only [iY, bl] at bV
   rename_i x
   simp only [kh] at h
   refine aY.block ((tt x top ro _ ρ U bV ht h).mono fun e ρ U he => ?_)
   cases e with
   | exit k =>
     have iq : Dc (Nat.beq k i) (Q.n ρ U) (Q.e k ρ U) := he
     simp only [sT]
     cases hb : Nat.beq k i with
     | true => rw [hb] at iq; rw [if_pos (dr hb)]; exact iq
     | false => rw [hb] at iq; rw [if_neg (fun e => by subst e; simp at hb)]; exact iq
   | normal => exact he
   | ret => exact he
   | panic x => exact he
 | loop a tt =>
   intro an top ro Q ρ U bV ht h
   cases an <;> simp only [iY, bl] at bV
   rename_i live x
   simp only [kh] at h
   obtain ⟨I, ⟨m, h0⟩, hr⟩ := h
   refine aY.loop (fun m ρ U => Fn.app live.length (I m) (live.map ρ.get) U) (n := m) h0 fun m ρ U hI => ?_
   have := Fn.Dz (hr m) _ _ (by simp) hI
   rw [Fn.lL _ _ _ _ (by simp)] at this
   refine aY.DV ((tt x top ro _ _ _ bV ht this).mono fun e cO ad he => ?_) (yO ρ live)
   cases e with
   | normal =>
     have iq : Fn.app live.length (Fn.lam live.length fun vs U => ∃ m', m' < m /\ Fn.app live.length (I m') vs U) (live.map cO.get) ad := he
     rw [Fn.lL _ _ _ _ (by simp)] at iq
     exact iq
   | exit i => exact he
   | ret => exact he
   | panic x => exact he
 | region id ops draw =>
   intro an top ro Q ρ U bV ht h
   have kp : sN Q.q = fun x U => ∀ ρ : Env, Q.p x U := rfl
   cases draw with
   | false =>
     cases an with
     | rg mu pf ct =>
       cases ct with
       | none =>
         simp only [iY] at bV
         simp only [kh] at h
         refine aY.region mu bV ?_
         have h2 := qN _ ρ U h
         exact pG (fun _ _ h => h) (fun v U hv ρ => hv) _ h2
       | some ct => simp [iY] at bV
     | _ => simp [iY] at bV
   | true =>
     cases an with
     | rg mu pf ct =>
       cases ct with
       | none => simp [iY] at bV
       | some ct =>
         simp only [iY, bF] at bV
         simp only [kh] at h
         obtain ⟨B, _, hA⟩ := yl _ _ _ _ h
         refine aY.r9 mu B ct.steps hm bV.1 (DQ bV.2) ?_
         exact gm (fun _ _ h => h) (fun v U hv ρ => hv) _ hA
     | rb mu ct =>
       simp only [iY, bF] at bV
       simp only [kh] at h
       obtain ⟨B, hB⟩ := h
       refine aY.r9 mu B ct.steps hm bV.1 (DQ bV.2) ?_
       exact gm (fun _ _ h => h) (fun v U hv ρ => hv) _ (ou B _ _ _ hB)
     | _ => simp [iY] at bV
 | rangeFunc f ps a b tt Dx =>
   intro an top ro Q ρ U bV ht h
   cases an <;> simp only [iY, bl, bF] at bV
   rename_i x y
   obtain ⟨⟨⟨h1, h2⟩, h3⟩, h4⟩ := bV
   have A9 := ht h1
   subst A9
   simp only [kh, oZ] at h
   split at h
   · rename_i gd first cap hf
     obtain ⟨oF, h⟩ := h
     refine aY.rangeFunc 0 hf oF fun o ho => ?_
     refine (h o ⟨ρ.get, nt, ps, a, b, .ready, none, 0⟩ ho rfl rfl ?_).mono fun r ad hr => ?_
     · intro args bM R L1 hl nu et hB
       obtain ⟨r1, r2, r3, r4, r5, r6, r7, r8⟩ := L1
       simp only [eg.st, eg.mk.injEq, true_and] at et
       obtain ⟨e1, e2, e3, e4, e5, e6⟩ := et
       subst e1 e2 e3 e4 e5 e6
       rw [nM.lL _ _ _ _ _ hl] at hB
       refine iy.BD nu (by simpa using hl) (fun t ht => by
        have := dU.1 h2 t ht
        exact Nat.le_of_ble_eq_true this) ?_
       refine (tt x false (.round o) _ _ _ h3 (fun h => by cases h) hB).mono fun e cO ad he => ?_
       cases e with
       | normal =>
         obtain ⟨L, k1, k2, k3⟩ := he
         refine ⟨L, k1, k2, (Dx y false (.round o) _ _ _ h4 (fun h => by cases h) k3).mono fun e nC bN he => ?_⟩
         cases e with
         | normal => exact he
         | exit i => exact he
         | ret => exact he
         | panic x => exact he
       | exit i => exact he
       | ret => exact he
       | panic x => exact he
     · cases r with
       | ret v =>
         obtain ⟨L, k1, k2, k3⟩ := hr
         refine ⟨L, k1, k2, ?_⟩
         split at k3
         · rename_i hp; rw [hp]; exact k3
         · rename_i hp; rw [hp]; exact k3
         · rename_i hp; rw [hp]; exact k3
         · exact k3.elim
       | panic v => exact hr
   · exact h.elim
 | scope a tt => intro an top ro Q ρ U bV; cases an <;> simp [iY] at bV
 | label l => intro an top ro Q ρ U bV; cases an <;> simp [iY] at bV
 | goto l => intro an top ro Q ρ U bV; cases an <;> simp [iY] at bV
 | refuse w => intro an top ro Q ρ U bV; cases an <;> simp [iY] at bV
def bI (vt : Option (Bool × Nat)) (p : AV) (U : St) (k : AV -> Prop) : Prop := match ao vt p U with
 | .val v => k v
 | @aA.cond q _ (.val v) => q /\ k v
 | _ => False
def yp (P : Program) (ρ : Env) (U : St) : List ResultVar -> (List AV -> Prop) -> Prop
 | [], k => k []
 | .tmp t :: rs, k => yp P ρ U rs fun vs => k (ρ.get t :: vs)
 | .cell t ty :: rs, k => bI (jJ P ty) (ρ.get t) U fun v => yp P ρ U rs fun vs => k (v :: vs)
theorem qQ {P : Program} {ρ : Env} {U : St} : ∀ (l : List ResultVar) (k : List AV -> Prop), yp P ρ U l k -> p7 P ρ U l k
 | [], _, h => h
 | .tmp t :: rs, k, h => qQ rs _ h
 | .cell t ty :: rs, k, h => by
   simp only [yp, bI] at h
   simp only [p7, uy]
   rw [show pB P ty (ρ.get t) U = ao (jJ P ty) (ρ.get t) U from rfl]
   split at h
   · rename_i hl; rw [hl]; exact qQ rs _ h
   · rename_i hl; rw [hl]; exact ⟨h.1, qQ rs _ h.2⟩
   · exact h.elim
def aj (R : cm -> St -> Prop) (x : AV) (U : St) : Prop := ∃ x' ad, jQ x U x' ad /\ R (.ret x') ad
def aa (R : cm -> St -> Prop) (x : AV) (U : St) : Prop := R (.panic x) U
def WI (P : Program) (fn : Func) (R : cm -> St -> Prop) : Qx where
 n := fun ρ U => yp P ρ U fn.results.toList fun vs => aj R (qe vs) U
 e := fun _ _ _ => False
 r := fun ρ U => yp P ρ U fn.results.toList fun vs => aj R (qe vs) U
 p := aa R
def D5 (C : bQ) (fn : Func) (an : An) (args : List AV) (R : cm -> St -> Prop) (U : St) : Prop := match fn.body with
 | some c => kh C c an (WI C.P fn R) (Env.fQ args) U
 | none => False
def okF (fn : Func) (an : An) (n : Nat) : Bool := match fn.body with
 | some c => iY fn.ntmps true c an && Nat.ble n fn.ntmps
 | none => false
theorem ae.Oa {C : bQ} (hm : C.P.follows .mixedOrders = true) {f : FuncId} {fn : Func} (an : An) {args : List AV} {R : cm -> St -> Prop} {U : St} (hf : C.P.funcs[f]? = some fn) (bV : okF fn an args.length = true)
 (h : D5 C fn an args R U) : ae C f args U R := by
 unfold okF at bV
 unfold D5 at h
 split at bV
 · rename_i c hb
   rw [hb] at h
   simp only [bF] at bV
   refine ae.DL hf hb (Nat.le_of_ble_eq_true bV.2) ?_
   refine (uf hm c an true .fn _ _ _ bV.1 (fun _ => rfl) h).mono fun e ρ U he => ?_
   cases e with
   | normal => exact qQ _ _ he
   | ret => exact qQ _ _ he
   | panic x => exact he
   | exit i => exact he
 · cases bV
theorem aj.mk {R : cm -> St -> Prop} {x : AV} {U : St} (h : R (.ret x) U) : aj R x U := ⟨x, U, jQ.refl _ _, h⟩
end Go.Rip
namespace Go.Rip
open Go.RowKit
section
variable {C : bQ} {U : St} {K : AV -> St -> Prop} {Kp : AV -> St -> Prop}
@[simp] theorem ag (v : AV) : (aA.val v).wp C U K Kp = K v U := rfl
@[simp] theorem hC (v : AV) (b : Nat) (x : Live) : (aA.ir v b x).wp C U K Kp = K v (U.set b x) := rfl
@[simp] theorem lq (k : NV) (x : Live) : (aA.new k none x).wp C U K Kp = ∀ b, U.cj b -> K (k.at b) (U.new b x) := rfl
@[simp] theorem Xc (k : NV) (d : Nat) (x : Live) : (aA.new k (some d) x).wp C U K Kp = ∀ b, (U.del d).cj b -> K (k.at b) ((U.del d).new b x) := rfl
@[simp] theorem gI (f : FuncId) (args : List AV) : (aA.enter f args).wp C U K Kp = ae C f args U (al K Kp) := rfl
@[simp] theorem wa (f : Nat) (args : List AV) : (aA.yield f args).wp C U K Kp = iy C f args U (al K Kp) := rfl
@[simp] theorem Ma (v : AV) : (aA.panic v).wp C U K Kp = Kp v U := rfl
@[simp] theorem wp_cond (p : Prop) [Decidable p] (r : aA) : (aA.cond p r).wp C U K Kp = (p /\ r.wp C U K Kp) := rfl
@[simp] theorem Zp : aA.bad.wp C U K Kp = False := rfl
@[simp] theorem Zq (p : Prop) [Decidable p] (r s : aA) : (if p then r else s).wp C U K Kp = if p then r.wp C U K Kp else s.wp C U K Kp := by split <;> rfl
@[simp] theorem bB (x : AV) : al K Kp (.ret x) U = K x U := rfl
@[simp] theorem SE (x : AV) : al K Kp (.panic x) U = Kp x U := rfl
end
@[simp] theorem SF (b : Bool) (A B : Prop) : ay (.bool b) A B = ((b = true -> A) /\ (b = false -> B)) := rfl
theorem bm (A B : Prop) : ay (.bool true) A B = A := by simp [ay]
theorem aX (A B : Prop) : ay (.bool false) A B = B := by simp [ay]
theorem br (p : Prop) [Decidable p] (A B : Prop) : ay (.bool (decide p)) A B = ((p -> A) /\ (¬ p -> B)) := by simp [ay]
@[simp] theorem aT (b w : Bool) : aF (.bool b) w = .bool (b == w) := rfl
@[simp] theorem W7 (w : Bool) : aF (.aL []) w = .bool false := rfl
@[simp] theorem j6 (v : AV) : yw true v = v := rfl
@[simp] theorem Rw (v : AV) : yw false v = .aL [] := rfl
@[simp] theorem aI (C : bQ) (b : Bool) (r : aA) (k : AV -> Prop) : ah C (.bool b) r k = c8 C b r k := rfl
@[simp] theorem mA (C : bQ) (b : Bool) (v : AV) (k : AV -> Prop) : c8 C b (.val v) k = k (yw b v) := rfl
@[simp] theorem SH (C : bQ) (b : Bool) (p : Prop) [Decidable p] (r : aA) (k : AV -> Prop) : c8 C b (.cond p r) k = ((b = true -> p) /\ c8 C b r k) := rfl
@[simp] theorem Rq (C : bQ) (b : Bool) (f : FuncId) (args : List AV) (k : AV -> Prop) : c8 C b (.enter f args) k = ∃ v, (b = true -> Pure C f args v) /\ k (yw b v) := rfl
@[simp] theorem bS (C : bQ) (k : AV -> Prop) : ∀ r : aA, (c8 C false r k) = k (.aL [])
 | .val v => rfl
 | @aA.cond _ _ r => by simp only [c8]; rw [bS C k r]; simp
 | .enter _ _ => by simp [c8]
 | .ir _ _ _ => by simp [c8]
 | .new _ _ _ => by simp [c8]
 | .gT _ _ => by simp [c8]
 | .yield _ _ => by simp [c8]
 | .panic _ => by simp [c8]
 | .bad => by simp [c8]
@[simp] theorem aC (C : bQ) (v : AV) (k : AV -> Prop) : av C (.val v) k = k v := rfl
@[simp] theorem fP (C : bQ) (p : Prop) [Decidable p] (r : aA) (k : AV -> Prop) : av C (.cond p r) k = (p /\ av C r k) := rfl
@[simp] theorem BL (C : bQ) (f : FuncId) (args : List AV) (k : AV -> Prop) : av C (.enter f args) k = ∃ v, Pure C f args v /\ k v := rfl
theorem pK (C : bQ) (k : AV -> Prop) : ∀ r : aA, c8 C true r k = av C r k
 | .val v => rfl
 | @aA.cond _ _ r => by simp only [c8, av, pK C k r]; simp
 | .enter _ _ => by simp [c8, av]
 | .ir _ _ _ => by simp [c8, av]
 | .new _ _ _ => by simp [c8, av]
 | .gT _ _ => by simp [c8, av]
 | .yield _ _ => by simp [c8, av]
 | .panic _ => by simp [c8, av]
 | .bad => by simp [c8, av]
@[simp] theorem bT (C : bQ) (k : AV -> Prop) (r : aA) : c8 C true r k = av C r k := pK C k r
theorem xd (C : bQ) (k : AV -> Prop) (r : aA) (p : Prop) [Decidable p] : c8 C (decide p) r k = ((p -> av C r k) /\ (¬ p -> k (.aL []))) := by
 by_cases h : p <;> simp [h]
theorem u5 (C : bQ) (k : AV -> Prop) (r : aA) (p : Prop) [Decidable p] : c8 C (!decide p) r k = ((p -> k (.aL [])) /\ (¬ p -> av C r k)) := by
 by_cases h : p <;> simp [h]
@[simp] theorem aG (b : Bool) (x y : AV) : bu (.bool b) x y = .val (if b = true then x else y) := rfl
@[simp] theorem ite_bool (b x y : Bool) : (if b = true then AV.bool x else AV.bool y) = .bool (if b = true then x else y) := by split <;> rfl
section
variable (bt : BT) (l : Bool) (k : IntKind) (a b : Int) (s t : List UInt8)
@[simp] theorem bf : aw .eql bt l (.int k a) (.int k b) = .val (.bool (decide (a = b))) := by simp only [aw, if_true]; rfl
@[simp] theorem cL : aw .neq bt l (.int k a) (.int k b) = .val (.bool (!decide (a = b))) := by simp only [aw, if_true]; rfl
@[simp] theorem bO : aw .lss bt l (.int k a) (.int k b) = .val (.bool (decide (a < b))) := by simp only [aw, if_true]
@[simp] theorem hZ : aw .leq bt l (.int k a) (.int k b) = .val (.bool (decide (a <= b))) := by simp only [aw, if_true]
@[simp] theorem eA : aw .gtr bt l (.int k a) (.int k b) = .val (.bool (decide (b < a))) := by simp only [aw, if_true, gt_iff_lt]
@[simp] theorem fK : aw .geq bt l (.int k a) (.int k b) = .val (.bool (decide (b <= a))) := by simp only [aw, if_true, ge_iff_le]
@[simp] theorem hY : aw .add bt l (.int k a) (.int k b) = eZ k (a + b) := by simp only [aw, if_true]
@[simp] theorem fL : aw .sub bt l (.int k a) (.int k b) = eZ k (a - b) := by simp only [aw, if_true]
@[simp] theorem Cn : aw .mul bt l (.int k a) (.int k b) = eZ k (a * b) := by simp only [aw, if_true]
@[simp] theorem SC : aw .quo bt l (.int k a) (.int k b) = .cond (b ≠ 0) (eZ k (a.tdiv b)) := by simp only [aw, if_true]
@[simp] theorem SD : aw .rem bt l (.int k a) (.int k b) = .cond (b ≠ 0) (.val (.int k (a.tmod b))) := by simp only [aw, if_true]
@[simp] theorem na : aw .eql bt l (.str s) (.str t) = .val (.bool (decide (s = t))) := by
 show aA.val (.bool (s == t)) = _
 rw [show (s == t) = decide (s = t) from mC.2 (by simp)]
@[simp] theorem pS : aw .neq bt l (.str s) (.str t) = .val (.bool (!decide (s = t))) := by
 show aA.val (.bool (s != t)) = _
 rw [show (s != t) = !decide (s = t) from mC.2 (by simp)]
@[simp] theorem Sz : aw .add bt l (.str s) (.str t) = .cond (s.length + t.length <= 4294967296) (.val (.str (s ++ t))) := rfl
@[simp] theorem PS (x y : Bool) (i p : Bool) (f : Option (List FK)) (sl : Bool) : aw .eql ⟨true, i, p, f, sl⟩ l (.bool x) (.bool y) = .val (.bool (x == y)) := by simp only [aw, if_true]
@[simp] theorem Ao (x y : Bool) (i p : Bool) (f : Option (List FK)) (sl : Bool) : aw .neq ⟨true, i, p, f, sl⟩ l (.bool x) (.bool y) = .val (.bool (x != y)) := by simp only [aw, if_true]
@[simp] theorem SA (x y : List AV) (i p q : Bool) (f : List FK) (sl : Bool) : aw .eql ⟨q, i, p, some f, sl⟩ l (.agg x) (.agg y) = sg .bool (kT f x y) := rfl
@[simp] theorem SB (x y : List AV) (i p q : Bool) (f : List FK) (sl : Bool) : aw .neq ⟨q, i, p, some f, sl⟩ l (.agg x) (.agg y) = sg (fun r => .bool (!r)) (kT f x y) := rfl
@[simp] theorem VA (f : Bool -> AV) (r : Bool) : sg f (some r) = .val (f r) := rfl
@[simp] theorem dm (x : Bool) : gL .not (.bool x) = .val (.bool (!x)) := rfl
@[simp] theorem dI : eZ .i64 a = .cond (su a) (.val (.int .i64 a)) := rfl
@[simp] theorem JX : eZ .u8 a = .val (.int .u8 (IntKind.u8.wrap a)) := rfl
end
theorem bh {n : Int} (h1 : -9223372036854775808 <= n) (h2 : n <= 9223372036854775807) : su n := ⟨h1, h2⟩
section
variable (sz b o : Nat) (p v : AV) (U : St) (L l : List AV)
theorem oP {U : St} {b : Nat} {L : List AV} (h : U.box b = some L) (n o : Nat) : ao (some (false, n)) (.box b o) U = eR (L.drop o) := by simp [ao, iz, h]
theorem Hf {U : St} {b : Nat} {L : List AV} (h : U.box b = some L) (n o : Nat) : ao (some (true, n)) (.box b o) U = .cond (n <= (L.drop o).length) (.val (.agg ((L.drop o).take n))) := by simp [ao, iz, h]
@[simp] theorem pC : ao (some (false, sz)) (.bL L) U = eR L := rfl
@[simp] theorem E0 : ao (some (true, sz)) (.bL L) U = .cond (sz <= L.length) (.val (.agg (L.take sz))) := rfl
@[simp] theorem cK (x : AV) : eR (x :: L) = .val x := rfl
theorem iZ {U : St} {b : Nat} {L : List AV} (h : U.box b = some L) (t : Bool) (n o : Nat) (v : AV) : aM (some (t, n)) (.box b o) v U = .cond (v.cr = true /\ (au v).length = n /\ o + n <= L.length) (.ir (.aL []) b (.box (aB L o (au v)))) := by simp [aM, h]
@[simp] theorem cH : a8 (.box b o) = .val (.box b o) := rfl
@[simp] theorem zI : a8 (.bL L) = .val (.bL L) := rfl
@[simp] theorem OH (f : Nat) (x y : List AV) : a8 (.func (.func f) x y) = .val (.func (.func f) x y) := rfl
@[simp] theorem aU (k : Nat) : af (some k) (.box b o) = .val (.box b (o + k)) := rfl
@[simp] theorem cJ (k : Nat) : af (some k) (.bL L) = .val (.bL (L.drop k)) := rfl
@[simp] theorem Ef (k n : Nat) : pd (some (k, false, n)) (.agg L) = eR (L.drop k) := rfl
@[simp] theorem Tn (k n : Nat) : pd (some (k, true, n)) (.agg L) = .cond (k + n <= L.length) (.val (.agg ((L.drop k).take n))) := rfl
@[simp] theorem sD (e n : Nat) (c : ik) (k : IntKind) (j : Int) (at_ : Option (Nat × TypeId × Nat)) : aJ (some (e, sz)) at_ (.vec n c L) (.int k j) = .cond (0 <= j /\ j < n) (.val (.bL (L.drop (j.toNat * sz)))) := rfl
@[simp] theorem Q2 (e n z t : Nat) (k : IntKind) (j : Int) (at_ : Option (Nat × TypeId × Nat)) : aJ (some (e, sz)) at_ (.ms b o n z t) (.int k j) = .cond (0 <= j /\ j < n /\ z = sz) (.val (.box b (o + j.toNat * sz))) := rfl
@[simp] theorem za (s : List UInt8) (k : IntKind) (j : Int) (at_ : Option (Nat × TypeId × Nat)) (vt : Option (Bool × Nat)) : ff true at_ vt (.str s) (.int k j) = .cond (0 <= j /\ j < s.length) (.val (.int .u8 (s.getD j.toNat 0).toNat)) := by simp [ff]
@[simp] theorem kr (s : List UInt8) : bZ (some true) (.str s) = .val (.int .i64 s.length) := rfl
@[simp] theorem qI (n : Nat) (c : ik) : bZ (some false) (.vec n c L) = .val (.int .i64 n) := rfl
@[simp] theorem Hb (n z e : Nat) : bZ (some false) (.ms b o n z e) = .val (.int .i64 n) := rfl
@[simp] theorem len_nil : bZ (some false) .aq = .val (.int .i64 0) := rfl
@[simp] theorem bP (k : Nat) : aV (.aL L) k = eR (L.drop k) := rfl
@[simp] theorem F5 : au (.agg L) = L := rfl
@[simp] theorem F6 (k : IntKind) (n : Int) : au (.int k n) = [.int k n] := rfl
@[simp] theorem yM (s : List UInt8) : au (.str s) = [.str s] := rfl
@[simp] theorem Tg (x : Bool) : au (.bool x) = [.bool x] := rfl
@[simp] theorem Uq : au (.box b o) = [.box b o] := rfl
@[simp] theorem Ur (n : Nat) (c : ik) : au (.vec n c L) = [.vec n c L] := rfl
@[simp] theorem VK (n z e : Nat) : au (.ms b o n z e) = [.ms b o n z e] := rfl
@[simp] theorem NL : au .aq = [.aq] := rfl
@[simp] theorem PV : au .aR = [.aR] := rfl
@[simp] theorem Ti (f : Go.Fn) (x y : List AV) : au (.func f x y) = [.func f x y] := rfl
@[simp] theorem Th (x y : List AV) : au (.dL x y) = [.dL x y] := rfl
@[simp] theorem VJ (m : Nat) : au (.mp m) = [.mp m] := rfl
@[simp] theorem KP : (AV.agg L).cr = true := rfl
@[simp] theorem KS (k : IntKind) (n : Int) : (AV.int k n).cr = true := rfl
@[simp] theorem KT (s : List UInt8) : (AV.str s).cr = true := rfl
@[simp] theorem Vn (x : Bool) : (AV.bool x).cr = true := rfl
@[simp] theorem Wt : (AV.box b o).cr = true := rfl
@[simp] theorem Wu (n : Nat) (c : ik) : (AV.vec n c L).cr = true := rfl
@[simp] theorem W9 (n z e : Nat) : (AV.ms b o n z e).cr = true := rfl
@[simp] theorem OG : AV.aq.cr = true := rfl
@[simp] theorem SG : AV.aR.cr = true := rfl
@[simp] theorem Vp (f : Go.Fn) (x y : List AV) : (AV.func f x y).cr = true := rfl
@[simp] theorem Vo (x y : List AV) : (AV.dL x y).cr = true := rfl
@[simp] theorem W8 (m : Nat) : (AV.mp m).cr = true := rfl
@[simp] theorem yL (h : v.cr = true) : eB v = .cond True (.cN (au v)) := by simp [eB, h]
@[simp] theorem nx (s : List UInt8) (sl : Option (TypeId × Nat)) (lo hi : Option AV) : fi true sl (.str s) lo hi = (match cI 0 lo, cI s.length hi with
 | some l, some h => .cond (0 <= l /\ l <= h /\ h <= s.length) (.val (.str ((s.take h.toNat).drop l.toNat)))
 | _, _ => .bad) := by
 simp only [fi]
 cases cI 0 lo <;> cases cI (s.length : Int) hi <;> rfl
@[simp] theorem ja (d : Int) : cI d none = some d := rfl
@[simp] theorem jT (d : Int) (k : IntKind) (n : Int) : cI d (some (.int k n)) = some n := rfl
@[simp] theorem zy (e n : Nat) (c : ik) (lo hi : Option AV) (st : Bool) : fi st (some (e, sz)) (.vec n c L) lo hi = (match cI 0 lo, cI n hi with
 | some a, some b => .cond (0 <= a /\ a <= b /\ b <= n) (.val (.vec (b.toNat - a.toNat) (rl c hi) ((L.take (b.toNat * sz)).drop (a.toNat * sz))))
 | _, _ => .bad) := by
 simp only [fi]
 cases cI 0 lo <;> cases cI (n : Int) hi <;> rfl
@[simp] theorem Xa (k : IntKind) (a b : Int) : vG (.int k a) (.int k b) = .val (.int k (if b > a then b else a)) := by simp [vG]
@[simp] theorem N5 (k : IntKind) (a b : Int) : tA (.int k a) (.int k b) = .val (.int k (if b < a then b else a)) := by simp [tA]
end
theorem aj.eq {R : cm -> St -> Prop} {x y : AV} {U : St} (h : R (.ret y) U) (e : x = y) : aj R x U := by subst e; exact aj.mk h
theorem Pure.go {C : bQ} {f : FuncId} {args : List AV} {x : AV} {K : AV -> St -> Prop} {Kp : AV -> St -> Prop} {U : St} (h : Pure C f args x) (hk : K x U) : ae C f args U (al K Kp) := h U _ hk
end Go.Rip
