/- Lemmas for the proof that ParseNames returns true: no conditions. -/
import Derived.Test.YtnfpmiiopiinbaaGreatDoorRipB
set_option linter.unusedSimpArgs false
set_option linter.unusedVariables false
namespace Go.Rip
open Go.RowKit
/-! ### Operations, what the type table says of them beside -/
def loadR (vt : Option (Bool × Nat)) (p : AV) (σ : St) : OpR :=
  match vt, cellsAt σ p with
  | some (true, sz), some l => .cond (sz ≤ l.length) (.val (.agg (l.take sz)))
  | some (false, _), some l => headR l
  | _, _ => .bad
def storeR (vt : Option (Bool × Nat)) (p v : AV) (σ : St) : OpR :=
  match vt, p with
  | some (_, sz), .box b off => match σ.box b with
    | some l => .cond (v.lies = true ∧ (cellsA v).length = sz ∧ off + sz ≤ l.length) (.upd (.tup []) b (.box (spliceL l off (cellsA v))))
    | none => .bad
  | _, _ => .bad
def allocR (t : TypeId) (z : Option (List AV)) : OpR :=
  match z with
  | some l => allocL t l
  | none => .bad
def buildR (st : Option (List (Nat × Nat))) (z : Option (List AV)) (at_ : Option (Nat × TypeId × Nat)) (parts : List (Nat × AV)) : OpR :=
  match st, z with
  | some pl, some z => fillA (fun i => pl[i]?) parts z fun z => .val (.agg z)
  | none, some z => match at_ with
    | some (_, _, sz) => fillA (fun i => some (i * sz, sz)) parts z fun z => .val (.agg z)
    | none => .bad
  | _, _ => .bad
def buildSliceR (sl : Option (TypeId × Nat)) (z : Option (List AV)) (n : Nat) (mu : Bool) (parts : List (Nat × AV)) : OpR :=
  match sl with
  | some (e, sz) => match z with
    | some z => .cond (n * sz ≤ 16777216) (fillA (fun i => some (i * sz, sz)) parts (zerosA n z) fun cs => .cond (cs.length = n * sz) (if mu then .newMs n sz e none cs else .val (.vec n .full cs)))
    | none => .bad
  | none => .bad
def mapUpdateR (mt : Option (FK × TypeId)) (m k v : AV) (σ : St) : OpR :=
  match mt, m with
  | some (fk, _), .mp id => match σ.mp id with
    | some (ks, vs) => match findA fk k ks 0, keyIs fk k with
      | some none, true => .upd (.tup []) id (.mp (insK k v ks vs).1 (insK k v ks vs).2)
      | some (some i), true => .upd (.tup []) id (.mp ks (vs.set i v))
      | _, _ => .bad
    | none => .bad
  | _, _ => .bad
def lookupR (mt : Option (FK × TypeId)) (z : Option AV) (m k : AV) (ok : Bool) (σ : St) : OpR :=
  match mt, entriesA σ m with
  | some (fk, e), some (ks, vs) => match z, keyIs fk k with
    | some z, true => lookL fk k z ok ks vs
    | _, _ => .bad
  | _, _ => .bad
def convR (it : Option IntKind) (is : Bool) (ss bs : Bool) (x : AV) : OpR :=
  match it, is, x with
  | some .i64, true, .int _ n => .cond (I64 n) (.val (.int .i64 n))
  | some k, true, .int _ n => .val (.int k (k.wrap n))
  | none, true, .str s => if ss = true then .val (.str s) else
    if bs = true then .cond (s.length ≤ 4294967296) (.val (.vec s.length .unk (s.map fun b => .int .u8 b.toNat))) else .bad
  | _, _, _ => .bad
def sliceR (st : Bool) (sl : Option (TypeId × Nat)) (x : AV) (lo hi : Option AV) : OpR :=
  match x with
  | .str s => match st, boundA 0 lo, boundA s.length hi with
    | true, some l, some h => .cond (0 ≤ l ∧ l ≤ h ∧ h ≤ s.length) (.val (.str ((s.take h.toNat).drop l.toNat)))
    | _, _, _ => .bad
  | .vec n cap l => match sl, boundA 0 lo, boundA n hi with
    | some (_, sz), some a, some b => .cond (0 ≤ a ∧ a ≤ b ∧ b ≤ n) (.val (.vec (b.toNat - a.toNat) (capSl cap hi) ((l.take (b.toNat * sz)).drop (a.toNat * sz))))
    | _, _, _ => .bad
  | .nilslice => match sl, boundA 0 lo, boundA 0 hi with
    | some (_, _), some a, some b => .cond (a = 0 ∧ b = 0) (.val .nilslice)
    | _, _, _ => .bad
  | .ms b off n esz e => match sl, boundA 0 lo, boundA n hi with
    | some (_, sz), some a, some h => .cond (0 ≤ a ∧ a ≤ h ∧ h ≤ n ∧ (a < n ∨ a = 0) ∧ esz = sz) (.val (.ms b (off + a.toNat * sz) (h.toNat - a.toNat) esz e))
    | _, _, _ => .bad
  | _ => .bad
def fieldAddrR (ft : Option Nat) (p : AV) : OpR :=
  match ft, p with
  | some o, .box b off => .val (.box b (off + o))
  | some o, .eptr l => .val (.eptr (l.drop o))
  | _, _ => .bad
def fieldValR (fv : Option (Nat × Bool × Nat)) (x : AV) : OpR :=
  match fv, x with
  | some (o, true, n), .agg l => .cond (o + n ≤ l.length) (.val (.agg ((l.drop o).take n)))
  | some (o, false, _), .agg l => headR (l.drop o)
  | _, _ => .bad
def arrIxR (at_ : Option (Nat × TypeId × Nat)) (x i : AV) : OpR :=
  match at_, x, i with
  | some (n, _, sz), .eptr l, .int _ j => .cond (0 ≤ j ∧ j < n) (.val (.eptr (l.drop (j.toNat * sz))))
  | some (n, _, sz), .box b off, .int _ j => .cond (0 ≤ j ∧ j < n) (.val (.box b (off + j.toNat * sz)))
  | _, _, _ => .bad
def indexAddrR (sl : Option (TypeId × Nat)) (at_ : Option (Nat × TypeId × Nat)) (x i : AV) : OpR :=
  match sl, x, i with
  | none, x, i => arrIxR at_ x i
  | some (_, sz), .vec n _ l, .int _ j => .cond (0 ≤ j ∧ j < n) (.val (.eptr (l.drop (j.toNat * sz))))
  | some (_, sz), .ms b off n esz _, .int _ j => .cond (0 ≤ j ∧ j < n ∧ esz = sz) (.val (.box b (off + j.toNat * sz)))
  | _, _, _ => .bad
def indexR (st : Bool) (at_ : Option (Nat × TypeId × Nat)) (vt : Option (Bool × Nat)) (x i : AV) : OpR :=
  match x, i with
  | .str s, .int _ j => if st = true then .cond (0 ≤ j ∧ j < s.length) (.val (.int .u8 (s.getD j.toNat 0).toNat)) else .bad
  | .agg l, .int _ j => match at_ with
    | some (n, e, sz) => match vt with
      | some (false, _) => .cond (0 ≤ j ∧ j < n) (headR (l.drop (j.toNat * sz)))
      | some (true, k) => .cond (0 ≤ j ∧ j < n ∧ k = sz ∧ j.toNat * sz + sz ≤ l.length) (.val (.agg ((l.drop (j.toNat * sz)).take sz)))
      | none => .bad
    | none => .bad
  | _, _ => .bad
def makeIfaceR (b : Bool) (t : TypeId) (x : AV) : OpR := if b = true then .val (.iface t x) else .bad
def rangeR (mt : Option (FK × TypeId)) (m : AV) : OpR :=
  match mt, m with
  | some _, .fmap ks vs => .new .it none (.iter (ks.zip vs) none)
  | _, _ => .bad
def typeAssertR (z : Option AV) (x : AV) (t : TypeId) (ok : Bool) : OpR :=
  match z, x with
  | some z, .iface u v => if u = t then .val (if ok then .tup [v, .bool true] else v) else if ok then .val (.tup [z, .bool false]) else .bad
  | some z, .niliface => if ok then .val (.tup [z, .bool false]) else .bad
  | _, _ => .bad
def makeSliceR (sl : Option (TypeId × Nat)) (z : Option (List AV)) (mu : Bool) (l c : AV) : OpR :=
  match sl, l, c with
  | some (e, sz), .int _ l, .int _ c => match z with
    | some z => .cond (0 ≤ l ∧ l = c ∧ c ≤ 65536) (if mu then .newMs l.toNat sz e none (zerosA l.toNat z) else .newTok l.toNat (zerosA l.toNat z) none ⟨l.toNat, e, sz⟩)
    | none => .bad
  | _, _, _ => .bad
def clearR (sl : Option (TypeId × Nat)) (z : Option (List AV)) (x : AV) (σ : St) : OpR :=
  match sl, x with
  | some (e, sz), .ms b off n esz _ => match σ.box b, z with
    | some l, some z => .cond (esz = sz ∧ off + n * sz ≤ l.length) (.upd (.tup []) b (.box (spliceL l off (zerosA n z))))
    | _, _ => .bad
  | _, _ => .bad
def lenR (lt : Option Bool) (x : AV) : OpR :=
  match lt, x with
  | some true, .str s => .val (.int .i64 s.length)
  | some false, .vec n _ _ => .val (.int .i64 n)
  | some false, .ms _ _ n _ _ => .val (.int .i64 n)
  | some false, .nilslice => .val (.int .i64 0)
  | _, _ => .bad
def appendR (ap : Option (TypeId × Nat)) (mu : Bool) (s y : AV) (σ : St) : OpR :=
  match ap, srcA σ y with
  | some (e, sz), some (m, l2) =>
    .cond (l2.length = m * sz) (match s with
    | .nilslice => if m = 0 then .val .nilslice else .cond (m ≤ 4294967296) (if mu then .newMs m sz e none l2 else .newTok m l2 none ⟨m, e, sz⟩)
    | .vec n .full l => if m = 0 then .val s else .cond (l.length = n * sz ∧ n + m ≤ 4294967296) (.newTok (n + m) (l ++ l2) none ⟨n + m, e, sz⟩)
    | .vec n (.own τ) l => .cond (σ.tok τ = some ⟨n, e, sz⟩ ∧ l.length = n * sz ∧ n + m ≤ 4294967296) (.newTok (n + m) (l ++ l2) (some τ) ⟨n + m, e, sz⟩)
    | .ms b off n esz e' => match σ.box b with
      | some l => .cond (off = 0 ∧ esz = sz ∧ e' = e ∧ n * sz ≤ l.length ∧ n + m ≤ 4294967296) (.newMs (n + m) sz e (some b) (l.take (n * sz) ++ l2))
      | none => .bad
    | _ => .bad)
  | _, _ => .bad
/-- What the table says of two values' comparison. -/
structure BT where
  b : Bool
  i : Bool
  p : Bool
  f : Option (List FK)
def btOf (P : Program) (t : TypeId) : BT := ⟨isBoolT P t, isIfaceT P t, isPtrT P t, flatT P t⟩
def eqR (f : Option (List FK)) (a b : List AV) : Option Bool :=
  match f with
  | some ks => eqK ks a b
  | none => none
def binR (op : BinOp) (bt : BT) (lit : Bool) (x y : AV) : OpR :=
  match op, x, y with
  | .eql, .niliface, .niliface => if bt.i = true ∧ lit = true then .val (.bool true) else .bad
  | .neq, .niliface, .niliface => if bt.i = true ∧ lit = true then .val (.bool false) else .bad
  | .add, .int k a, .int k' b => if k = k' then arithA k (a + b) else .bad
  | .sub, .int k a, .int k' b => if k = k' then arithA k (a - b) else .bad
  | .mul, .int k a, .int k' b => if k = k' then arithA k (a * b) else .bad
  | .quo, .int k a, .int k' b => if k = k' then .cond (b ≠ 0) (arithA k (a.tdiv b)) else .bad
  | .rem, .int k a, .int k' b => if k = k' then .cond (b ≠ 0) (.val (.int k (a.tmod b))) else .bad
  | .and, .int k a, .int k' b => if k = k' then .val (.int k (k.wrap (BitVec.ofInt k.bits a &&& BitVec.ofInt k.bits b).toNat)) else .bad
  | .or, .int k a, .int k' b => if k = k' then .val (.int k (k.wrap (BitVec.ofInt k.bits a ||| BitVec.ofInt k.bits b).toNat)) else .bad
  | .eql, .int k a, .int k' b => if k = k' then .val (.bool (a == b)) else .bad
  | .neq, .int k a, .int k' b => if k = k' then .val (.bool (a != b)) else .bad
  | .lss, .int k a, .int k' b => if k = k' then .val (.bool (decide (a < b))) else .bad
  | .leq, .int k a, .int k' b => if k = k' then .val (.bool (decide (a ≤ b))) else .bad
  | .gtr, .int k a, .int k' b => if k = k' then .val (.bool (decide (a > b))) else .bad
  | .geq, .int k a, .int k' b => if k = k' then .val (.bool (decide (a ≥ b))) else .bad
  | .eql, .str a, .str b => .val (.bool (a == b))
  | .neq, .str a, .str b => .val (.bool (a != b))
  | .add, .str a, .str b => .cond (a.length + b.length ≤ 4294967296) (.val (.str (a ++ b)))
  | .eql, .bool a, .bool b => if bt.b = true then .val (.bool (a == b)) else .bad
  | .neq, .bool a, .bool b => if bt.b = true then .val (.bool (a != b)) else .bad
  | .eql, .agg a, .agg b => valO .bool (eqR bt.f a b)
  | .neq, .agg a, .agg b => valO (fun r => .bool (!r)) (eqR bt.f a b)
  | .eql, .iface _ _, .niliface => if bt.i = true then .val (.bool false) else .bad
  | .neq, .iface _ _, .niliface => if bt.i = true then .val (.bool true) else .bad
  | .eql, .nilptr, .nilptr => if bt.p = true then .val (.bool true) else .bad
  | .eql, .box _ _, .nilptr => if bt.p = true then .val (.bool false) else .bad
  | .neq, .nilptr, .nilptr => if bt.p = true then .val (.bool false) else .bad
  | .neq, .box _ _, .nilptr => if bt.p = true then .val (.bool true) else .bad
  | .eql, .eptr _, .nilptr => if bt.p = true then .val (.bool false) else .bad
  | .neq, .eptr _, .nilptr => if bt.p = true then .val (.bool true) else .bad
  | _, _, _ => .bad
theorem binR_eq (P : Program) (op : BinOp) (t : TypeId) (lit : Bool) (x y : AV) : binR op (btOf P t) lit x y = binL P op t lit x y := by
  unfold binR binL binA
  cases op <;> cases x <;> cases y <;> rfl
/-- A call of a function that is named. -/
def fnR (P : Program) (f : AV) (args : List AV) : OpR := fnA P f args
def zeroEl (P : Program) (t : TypeId) : Option (List AV) := match sliceT P t with
  | some (e, _) => zeroC P e
  | none => none
def arrEl (P : Program) (t : TypeId) : Option (Bool × Nat) := match arrT P t with
  | some (_, e, _) => varT P e
  | none => none
def zeroMv (P : Program) (t : TypeId) : Option AV := match mapT P t with
  | some (_, e) => zeroV P e
  | none => none
def appendRB (gt : Option (TypeId × Nat × List AV)) (ap : Option (TypeId × Nat)) (mu : Bool) (s y : AV) (σ : St) : OpR :=
  match gt with
  | some q => growR q mu s y
  | none => appendR ap mu s y σ
def callQ (C : Cfg) (mu : Bool) (c : Call) (ρ : Env) (σ : St) : OpR :=
  match c.callee, c.argTypes.toList, c.args.toList with
  | .value (.func f), _, args => if entersT C.P f = true then .enter f (args.map (ρ.ev C)) else .bad
  | .value f, _, args => fnA C.P (ρ.ev C f) (args.map (ρ.ev C))
  | .builtin .len, [t], [x] => lenR (lenT C.P t) (ρ.ev C x)
  | .builtin .append, [t, u], [s, y] => appendRB (growT C.P t u) (appT C.P t u) mu (ρ.ev C s) (ρ.ev C y) σ
  | .builtin .cap, [t], [x] => capA (sliceT C.P t) (ρ.ev C x)
  | .builtin .min, _, [x, y] => minA (ρ.ev C x) (ρ.ev C y)
  | .builtin .max, _, [x, y] => maxA (ρ.ev C x) (ρ.ev C y)
  | .builtin .clear, [t], [x] => clearR (sliceT C.P t) (zeroEl C.P t) (ρ.ev C x) σ
  | _, _, _ => .bad
def opQ (C : Cfg) (mu : Bool) (o : Op) (ρ : Env) (σ : St) : OpR :=
  match o with
  | .move x | .assign x => .val (ρ.ev C x)
  | .pick c a b => pickA (ρ.ev C c) (ρ.ev C a) (ρ.ev C b)
  | .alloc t => allocR t (zeroC C.P t)
  | .box _ x => boxA (ρ.ev C x)
  | .build t parts => buildR (structT C.P t) (zeroC C.P t) (arrT C.P t) (evParts C ρ parts)
  | .buildSlice t n parts => buildSliceR (sliceT C.P t) (zeroEl C.P t) n mu (evParts C ρ parts)
  | .insert t m k v | .mapUpdate t m k v => mapUpdateR (mapT C.P t) (ρ.ev C m) (ρ.ev C k) (ρ.ev C v) σ
  | .load t a => loadR (varT C.P t) (ρ.ev C a) σ
  | .store t a v => storeR (varT C.P t) (ρ.ev C a) (ρ.ev C v) σ
  | .nilCheck x => nilCheckA (ρ.ev C x)
  | .binOp op t x y _ => binR op (btOf C.P t) (isLit x || isLit y) (ρ.ev C x) (ρ.ev C y)
  | .unOp op _ x => unA op (ρ.ev C x)
  | .convert s d x => convR (intT C.P d) (C.P.underlying s).isSome (isStrT C.P d && isStrT C.P s) (isBytesT C.P d && isStrT C.P s) (ρ.ev C x)
  | .makeInterface t x => makeIfaceR (notIfaceT C.P t) t (ρ.ev C x)
  | .makeFunc fn first cap => .val (.func fn (first.toList.map (ρ.ev C)) (cap.toList.map (ρ.ev C)))
  | .makeMap _ none => .newMp
  | .slice t x lo hi none => sliceR (isStrT C.P t) (sliceT C.P t) (ρ.ev C x) (lo.map (ρ.ev C)) (hi.map (ρ.ev C))
  | .fieldAddr s x f => fieldAddrR (fieldT C.P s f) (ρ.ev C x)
  | .field s x f => fieldValR (fieldVT C.P s f) (ρ.ev C x)
  | .indexAddr t x i => indexAddrR (sliceT C.P t) (arrT C.P t) (ρ.ev C x) (ρ.ev C i)
  | .index t x i => indexR (isStrT C.P t) (arrT C.P t) (arrEl C.P t) (ρ.ev C x) (ρ.ev C i)
  | .lookup t m k ok => lookupR (mapT C.P t) (zeroMv C.P t) (ρ.ev C m) (ρ.ev C k) ok σ
  | .extract t i => extractA (ρ.ev C t) i
  | .panic x => panicA (ρ.ev C x)
  | .range t m => rangeR (mapT C.P t) (ρ.ev C m)
  | .typeAssert x _ t ok => typeAssertR (assertT C.P t) (ρ.ev C x) t ok
  | .makeSlice t l c => makeSliceR (sliceT C.P t) (zeroEl C.P t) mu (ρ.ev C l) (ρ.ev C c)
  | .next i false => nextA (ρ.ev C i) σ
  | .entry i => entryA (ρ.ev C i) σ
  | .call c => callQ C mu c ρ σ
  | _ => .bad
theorem callQ_eq (C : Cfg) (mu : Bool) (c : Call) (ρ : Env) (σ : St) : callQ C mu c ρ σ = callA C mu c ρ σ := by
  unfold callQ callA
  obtain ⟨callee, ⟨args⟩, ⟨tys⟩⟩ := c
  cases callee with
  | value f =>
    cases f <;> simp only [fnA, Env.ev, List.nil_append, List.append_nil]
  | invoke r m => rfl
  | builtin b =>
    cases b
    case clear =>
      dsimp only
      rcases tys with _ | ⟨t, _ | ⟨u, _ | _⟩⟩ <;> rcases args with _ | ⟨x, _ | ⟨y, _ | _⟩⟩ <;> try rfl
      simp only [clearR, clearA, zeroEl]
      generalize ρ.ev C x = y
      cases h : sliceT C.P t with
      | none => rfl
      | some es => (cases es; cases y <;> rfl)
    all_goals first | rfl | (dsimp only; rcases tys with _ | ⟨t, _ | ⟨u, _ | _⟩⟩ <;> rcases args with _ | ⟨x, _ | ⟨y, _ | _⟩⟩ <;> rfl)
theorem opQ_eq (C : Cfg) (mu : Bool) (o : Op) (ρ : Env) (σ : St) : opQ C mu o ρ σ = opR C mu o ρ σ := by
  cases o with
  | binOp op t x y yt => exact binR_eq _ _ _ _ _ _
  | call c => exact callQ_eq _ _ _ _ _
  | buildSlice t n parts =>
    simp only [opQ, opR, buildSliceR, buildSliceA, zeroEl]
    cases h : sliceT C.P t with
    | none => rfl
    | some es => (cases es; rfl)
  | index t x i =>
    simp only [opQ, opR, indexR, indexA, arrEl]
    generalize ρ.ev C x = y
    generalize ρ.ev C i = z
    cases h : arrT C.P t with
    | none => cases y <;> rfl
    | some es => (cases es; cases y <;> cases z <;> rfl)
  | lookup t m k ok =>
    simp only [opQ, opR, lookupR, lookupA, zeroMv]
    generalize entriesA σ (ρ.ev C m) = y
    cases h : mapT C.P t with
    | none => rfl
    | some es => (cases es; cases y <;> rfl)
  | makeSlice t l c =>
    simp only [opQ, opR, makeSliceR, makeSliceA, zeroEl]
    generalize ρ.ev C l = y
    generalize ρ.ev C c = z
    cases h : sliceT C.P t with
    | none => rfl
    | some es => (cases es; cases y <;> cases z <;> rfl)
  | convert s d x =>
    simp only [opQ, opR, convR, convA, Bool.and_eq_true]
    rfl
  | makeMap t r => cases r <;> rfl
  | slice t x lo hi m => cases m <;> rfl
  | next i b => cases b <;> rfl
  | _ => rfl
end Go.Rip


set_option linter.unusedSimpArgs false
set_option linter.unusedVariables false
namespace Go.Rip
open Go.RowKit
/-! ### Functions of n values and a state -/
def Fn : Nat → Type
  | 0 => St → Prop
  | n + 1 => AV → Fn n
namespace Fn
def app : (n : Nat) → Fn n → List AV → St → Prop
  | 0, f, _, σ => f σ
  | n + 1, f, x :: xs, σ => app n (f x) xs σ
  | n + 1, f, [], σ => app n (f .any) [] σ
def lam : (n : Nat) → (List AV → St → Prop) → Fn n
  | 0, F => fun σ => F [] σ
  | n + 1, F => fun x => lam n (fun xs σ => F (x :: xs) σ)
theorem app_lam : ∀ (n : Nat) (F : List AV → St → Prop) (xs : List AV) (σ : St), xs.length = n → app n (lam n F) xs σ = F xs σ
  | 0, F, [], σ, _ => rfl
  | n + 1, F, x :: xs, σ, h => app_lam n (fun xs σ => F (x :: xs) σ) xs σ (by simpa using h)
  | 0, F, _ :: _, σ, h => by simp at h
  | n + 1, F, [], σ, h => by simp at h
def imp : (n : Nat) → Fn n → Fn n → Prop
  | 0, f, g => ∀ σ, f σ → g σ
  | n + 1, f, g => ∀ x, imp n (f x) (g x)
theorem imp_app : ∀ {n : Nat} {f g : Fn n}, imp n f g → ∀ (xs : List AV) (σ : St), xs.length = n → app n f xs σ → app n g xs σ
  | 0, f, g, h, xs, σ, _, hf => h σ hf
  | n + 1, f, g, h, x :: xs, σ, hl, hf => imp_app (h x) xs σ (by simpa using hl) hf
  | n + 1, f, g, h, [], σ, hl, hf => by simp at hl
theorem app_imp : ∀ {n : Nat} {f g : Fn n}, (∀ (xs : List AV) (σ : St), xs.length = n → app n f xs σ → app n g xs σ) → imp n f g
  | 0, f, g, h => fun σ hf => h [] σ rfl hf
  | n + 1, f, g, h => fun x => app_imp fun xs σ hl hf => h (x :: xs) σ (by simpa using hl) hf
end Fn
/-! ### Slots that are known -/
def lookS : List Nat → List AV → Nat → AV
  | s :: ss, x :: xs, t => cond (Nat.beq t s) x (lookS ss xs t)
  | _, _, _ => .any
def envS (live : List Nat) (vs : List AV) : Env := ⟨lookS live vs⟩
theorem lookS_map (f : Nat → AV) (t : Nat) : ∀ live : List Nat, lookS live (live.map f) t = f t ∨ lookS live (live.map f) t = .any
  | [] => .inr rfl
  | s :: ss => by
    simp only [List.map_cons, lookS]
    cases h : Nat.beq t s with
    | true => have := Nat.eq_of_beq_eq_true h; subst this; exact .inl rfl
    | false => exact lookS_map f t ss
theorem envS_weak (ρ : Env) (live : List Nat) (t : Nat) : (envS live (live.map ρ.get)).get t = ρ.get t ∨ (envS live (live.map ρ.get)).get t = .any := lookS_map ρ.get t live
section
variable {C : Cfg} {nt : Nat} {ro : Ro} {σ : St} {ρ : Env}
theorem CodeA.weakenE {c : Code} {Q : Ex → Env → St → Prop} {ρ' : Env} (h : CodeA C nt ro c Q ρ' σ) (hw : ∀ t, ρ'.get t = ρ.get t ∨ ρ'.get t = .any) : CodeA C nt ro c Q ρ σ :=
  fun g w a fr h1 h2 h3 h4 h5 => h g w a fr h1 h2 (fun t => by
    rcases hw t with e | e
    · rw [e]; exact h3 t
    · rw [e]; simp only [Rep]) h4 h5
end
/-! ### What follows -/
structure Qx where
  n : Env → St → Prop
  e : Nat → Env → St → Prop
  r : Env → St → Prop
  p : AV → St → Prop
def Qx.q (Q : Qx) : Ex → Env → St → Prop
  | .normal, ρ, σ => Q.n ρ σ
  | .exit i, ρ, σ => Q.e i ρ σ
  | .ret, ρ, σ => Q.r ρ σ
  | .panic x, _, σ => Q.p x σ

/-! ### Operations, one after the other -/
def gslot (ops : Array Oper) (j : Nat) : Option Nat := (ops[j]?).bind (·.dst)
def gvR (v : AV) (want : Bool) : AV := match v with
  | .bool b => .bool (b == want)
  | .tup [] => .bool false
  | _ => .any
def gvQ (ops : Array Oper) (ρ : Env) (jw : Nat × Bool) : AV := match gslot ops jw.1 with
  | some d => gvR (ρ.get d) jw.2
  | none => .any
theorem gvQ_eq (ops : Array Oper) (ρ : Env) (jw : Nat × Bool) : gvalA ops ρ (some jw) = gvQ ops ρ jw := rfl
/-- What a guard lets by. -/
def selA (b : Bool) (v : AV) : AV := match b with
  | true => v
  | false => .tup []
/-- A quiet operation behind a guard's value. -/
def quietB (C : Cfg) (b : Bool) : OpR → (AV → Prop) → Prop
  | .val v, k => k (selA b v)
  | @OpR.cond p _ r, k => (b = true → p) ∧ quietB C b r k
  | .enter f args, k => ∃ v, (b = true → Pure C f args v) ∧ k (selA b v)
  | _, k => b = false ∧ k (.tup [])
def quietG (C : Cfg) (gv : AV) (r : OpR) (k : AV → Prop) : Prop := match gv with
  | .bool b => quietB C b r k
  | _ => False
theorem quietB_true {C : Cfg} : ∀ (r : OpR) {k : AV → Prop}, quietB C true r k → ∃ v, r.yv C v ∧ k v
  | .val v, k, h => ⟨v, rfl, h⟩
  | @OpR.cond _ _ r, k, h => let ⟨v, h1, h2⟩ := quietB_true r h.2; ⟨v, ⟨h.1 rfl, h1⟩, h2⟩
  | .enter _ _, k, h => let ⟨v, h1, h2⟩ := h; ⟨v, h1 rfl, h2⟩
  | .upd _ _ _, _, h => by cases h.1
  | .new _ _ _, _, h => by cases h.1
  | .anyOf _ _, _, h => by cases h.1
  | .yield _ _, _, h => by cases h.1
  | .panic _, _, h => by cases h.1
  | .bad, _, h => by cases h.1
theorem quietB_false {C : Cfg} : ∀ (r : OpR) {k : AV → Prop}, quietB C false r k → k (.tup [])
  | .val v, k, h => h
  | @OpR.cond _ _ r, k, h => quietB_false r h.2
  | .enter _ _, k, h => let ⟨v, h1, h2⟩ := h; h2
  | .upd _ _ _, _, h => h.2
  | .new _ _ _, _, h => h.2
  | .anyOf _ _, _, h => h.2
  | .yield _ _, _, h => h.2
  | .panic _, _, h => h.2
  | .bad, _, h => h.2
theorem quietG_cases {C : Cfg} {gv : AV} {r : OpR} {k : AV → Prop} (h : quietG C gv r k) : (gv = .bool true ∧ ∃ v, r.yv C v ∧ k v) ∨ (gv = .bool false ∧ k (.tup [])) := by
  cases gv <;> simp only [quietG] at h
  rename_i b
  cases b
  · exact .inr ⟨rfl, quietB_false r h⟩
  · exact .inl ⟨rfl, quietB_true r h⟩
/-- Is an operation taken as a quiet one? pf: the functions that only compute. -/
def quietP (pf : List Nat) (o : Op) : Bool := match o with
  | .call c => match c.callee with
    | .value (.func f) => pf.any fun g => Nat.beq g f
    | .value _ => false
    | _ => quiet o
  | o => quiet o
/-- Operations that only give a value another name. -/
def inlA (C : Cfg) (o : Op) (ρ : Env) : Option AV := match o with
  | .move x | .assign x => some (ρ.ev C x)
  | .makeFunc fn first cap => some (.func fn (first.toList.map (ρ.ev C)) (cap.toList.map (ρ.ev C)))
  | _ => none
theorem inlA_eq {C : Cfg} {o : Op} {ρ : Env} {v : AV} (h : inlA C o ρ = some v) (mu : Bool) (σ : St) : opQ C mu o ρ σ = .val v := by
  unfold inlA at h
  split at h
  · cases h; rfl
  · cases h; rfl
  · cases h; rfl
  · cases h
def opsW (C : Cfg) (mu pf : List Nat) (ops : Array Oper) : List Oper → Env → St → (Env → St → Prop) → (AV → St → Prop) → Prop
  | [], ρ, σ, K, _ => K ρ σ
  | o :: rest, ρ, σ, K, Kp => match o.guard with
    | none => match inlA C o.op ρ with
      | some v => opsW C mu pf ops rest (ρ.putO o.dst v) σ K Kp
      | none => (opQ C (muOf mu o) o.op ρ σ).wp C σ (fun v σ => opsW C mu pf ops rest (ρ.putO o.dst v) σ K Kp) Kp
    | some jw => match quietP pf o.op with
      | true => quietG C (gvQ ops ρ jw) (opQ C (muOf mu o) o.op ρ σ) (fun v => opsW C mu pf ops rest (ρ.putO o.dst v) σ K Kp)
      | false => guardW (gvQ ops ρ jw) ((opQ C (muOf mu o) o.op ρ σ).wp C σ (fun v σ => opsW C mu pf ops rest (ρ.putO o.dst v) σ K Kp) Kp)
        (opsW C mu pf ops rest (ρ.putO o.dst (.tup [])) σ K Kp)
theorem opsW_A {C : Cfg} {mu pf : List Nat} {ops : Array Oper} {K : Env → St → Prop} {Kp : AV → St → Prop} : ∀ (l : List Oper) (ρ : Env) (σ : St),
    opsW C mu pf ops l ρ σ K Kp → opsA C mu ops l ρ σ K Kp
  | [], _, _, h => h
  | o :: rest, ρ, σ, h => by
    have step : ∀ {r : OpR}, r.wp C σ (fun v σ => opsW C mu pf ops rest (ρ.putO o.dst v) σ K Kp) Kp →
        r.wp C σ (fun v σ' => opsA C mu ops rest (ρ.putO o.dst v) σ' K Kp) Kp := fun hr => OpR.wp_mono (fun v σ' hv => opsW_A rest _ _ hv) _ hr
    simp only [opsW] at h
    simp only [opsA]
    show guardW (gvalA ops ρ o.guard) ((opR C (muOf mu o) o.op ρ σ).wp C σ (fun v σ' => opsA C mu ops rest (ρ.putO o.dst v) σ' K Kp) Kp) (opsA C mu ops rest (ρ.putO o.dst (.tup [])) σ K Kp)
    rw [← opQ_eq]
    cases hg : o.guard with
    | none =>
      rw [hg] at h
      simp only at h
      refine ⟨fun _ => ?_, fun hf => (by cases hf)⟩
      split at h
      · rename_i v hv
        rw [inlA_eq hv]
        exact opsW_A rest _ _ h
      · exact step h
    | some jw =>
      rw [hg] at h
      simp only at h
      rw [gvQ_eq]
      split at h
      · rcases quietG_cases h with ⟨hb, v, hv, hk⟩ | ⟨hb, hk⟩
        · rw [hb]
          refine ⟨fun _ => ?_, fun hf => (by cases hf)⟩
          exact OpR.yv_wp _ hv (opsW_A rest _ _ hk)
        · rw [hb]
          exact ⟨fun hf => (by cases hf), fun _ => opsW_A rest _ _ hk⟩
      · cases hv : gvQ ops ρ jw <;> rw [hv] at h <;> simp only [guardW] at h ⊢
        exact ⟨fun e => step (h.1 e), fun e => opsW_A rest _ _ (h.2 e)⟩

/-! ### Regions that draw -/
def quietW (C : Cfg) : OpR → (AV → Prop) → Prop
  | .val v, k => k v
  | @OpR.cond p _ r, k => p ∧ quietW C r k
  | .enter f args, k => ∃ v, Pure C f args v ∧ k v
  | _, _ => False
theorem quietW_yv {C : Cfg} : ∀ (r : OpR) {k : AV → Prop}, quietW C r k → ∃ v, r.yv C v ∧ k v
  | .val v, k, h => ⟨v, rfl, h⟩
  | @OpR.cond _ _ r, k, h => let ⟨v, h1, h2⟩ := quietW_yv r h.2; ⟨v, ⟨h.1, h1⟩, h2⟩
  | .enter _ _, k, h => h
  | .upd _ _ _, _, h => h.elim
  | .new _ _ _, _, h => h.elim
  | .anyOf _ _, _, h => h.elim
  | .yield _ _, _, h => h.elim
  | .panic _, _, h => h.elim
  | .bad, _, h => h.elim
def headsO (C : Cfg) (ρ : Env) (o : Op) : List Nat := o.operands.toList.flatMap fun x => headN (ρ.ev C x)
def rdW (b : Bool) (P k : Prop) : Prop := match b with
  | true => P ∧ k
  | false => k
def ixW (b : Bool) (P k : Prop) : Prop := match b with
  | true => k
  | false => P ∧ k
theorem ixW_Ix {ops : Array Oper} {i : Nat} {I : St → Prop} {σ : St} {k : Prop} (h : ixW (allAft ops i) (I σ) k) : Ix ops I i σ ∧ k := by
  unfold Ix
  cases ha : allAft ops i <;> rw [ha] at h <;> simp only [ixW] at h
  · exact ⟨.inr h.1, h.2⟩
  · exact ⟨.inl rfl, h⟩
/-- A quiet operation, with its guard if there is one. -/
def quietO (C : Cfg) (ops : Array Oper) (ρ : Env) (g : Option (Nat × Bool)) (i : Option AV) (r : OpR) (k : AV → Prop) : Prop := match g with
  | none => match i with
    | some v => k v
    | none => quietW C r k
  | some jw => quietG C (gvQ ops ρ jw) r k
def gW (ops : Array Oper) (ρ : Env) (g : Option (Nat × Bool)) (A B : Prop) : Prop := match g with
  | none => A
  | some jw => guardW (gvQ ops ρ jw) A B
def planF (C : Cfg) (mu : List Nat) (ops : Array Oper) (σ0 : St) (K : Env → St → Prop) (Kp : AV → St → Prop) (B : List Nat) : List (Bool × Nat) → Env → St → Prop
  | [], ρ, σ => K ρ σ
  | (true, i) :: r, ρ, σ => match ops[i]? with
    | none => False
    | some o => match quiet o.op with
      | false => False
      | true => rdW (readsOp o.op) (∀ b ∈ headsO C ρ o.op, b ∈ B) (quietO C ops ρ o.guard (inlA C o.op ρ) (opQ C (muOf mu o) o.op ρ σ0) fun v => planF C mu ops σ0 K Kp B r (ρ.putO o.dst v) σ)
  | (false, i) :: r, ρ, σ => match ops[i]? with
    | none => False
    | some o => gW ops ρ o.guard ((opQ C (muOf mu o) o.op ρ σ).wp C σ (fun v σ => ixW (allAft ops i) (SameAt B σ0 σ) (planF C mu ops σ0 K Kp B r (ρ.putO o.dst v) σ)) Kp)
        (planF C mu ops σ0 K Kp B r (ρ.putO o.dst (.tup [])) σ)
def planW (C : Cfg) (mu : List Nat) (ops : Array Oper) (σ0 : St) (K : Env → St → Prop) (Kp : AV → St → Prop) : List (Bool × Nat) → List Nat → Env → St → Prop
  | [], _, ρ, σ => K ρ σ
  | (true, i) :: r, B, ρ, σ => match ops[i]? with
    | none => False
    | some o => match quiet o.op with
      | false => False
      | true => quietO C ops ρ o.guard (inlA C o.op ρ) (opQ C (muOf mu o) o.op ρ σ0) fun v => planW C mu ops σ0 K Kp r (match readsOp o.op with | true => headsO C ρ o.op ++ B | false => B) (ρ.putO o.dst v) σ
  | (false, i) :: r, B, ρ, σ => planF C mu ops σ0 K Kp B ((false, i) :: r) ρ σ
section
variable {C : Cfg} {mu : List Nat} {ops : Array Oper} {σ0 : St} {K : Env → St → Prop} {Kp : AV → St → Prop}
theorem gW_cases {ρ : Env} {g : Option (Nat × Bool)} {A B : Prop} (h : gW ops ρ g A B) : (gvalA ops ρ g = .bool true ∧ A) ∨ (gvalA ops ρ g = .bool false ∧ B) := by
  unfold gW at h
  cases g with
  | none => exact .inl ⟨rfl, h⟩
  | some jw =>
    simp only at h
    rw [gvQ_eq]
    cases hv : gvQ ops ρ jw <;> rw [hv] at h <;> simp only [guardW] at h
    rename_i b
    cases b
    · exact .inr ⟨rfl, h.2 rfl⟩
    · exact .inl ⟨rfl, h.1 rfl⟩
theorem quietO_cases {ρ : Env} {g : Option (Nat × Bool)} {i : Option AV} {r : OpR} {k : AV → Prop} (hi : ∀ v, i = some v → r = .val v) (h : quietO C ops ρ g i r k) : (gvalA ops ρ g = .bool true ∧ ∃ v, r.yv C v ∧ k v) ∨ (gvalA ops ρ g = .bool false ∧ k (.tup [])) := by
  unfold quietO at h
  cases g with
  | none =>
    cases i with
    | none => exact .inl ⟨rfl, quietW_yv r h⟩
    | some v => rw [hi v rfl]; exact .inl ⟨rfl, v, rfl, h⟩
  | some jw => simp only at h; rw [gvQ_eq]; exact quietG_cases h
theorem headsO_mem {ρ : Env} {o : Op} {x : Operand} (hx : x ∈ o.operands.toList) {b : Nat} (hb : b ∈ headN (ρ.ev C x)) : b ∈ headsO C ρ o := List.mem_flatMap.2 ⟨x, hx, hb⟩
theorem planF_A (B : List Nat) : ∀ (l : List (Bool × Nat)) (ρ : Env) (σ : St), planF C mu ops σ0 K Kp B l ρ σ → planA C mu ops B σ0 K Kp l ρ σ
  | [], _, _, h => h
  | (true, i) :: r, ρ, σ, h => by
    simp only [planF] at h
    split at h
    · exact h.elim
    · rename_i o ho
      split at h
      · exact h.elim
      · rename_i hq
        have key : ∀ {P k : Prop}, rdW (readsOp o.op) P k → (readsOp o.op = true → P) ∧ k := fun {P k} h => by
          cases hr : readsOp o.op <;> rw [hr] at h <;> simp only [rdW] at h
          · exact ⟨fun h => (by cases h), h⟩
          · exact ⟨fun _ => h.1, h.2⟩
        obtain ⟨hB, h⟩ := key h
        rcases quietO_cases (fun v hv => inlA_eq hv _ _) h with ⟨hg, v, hv, hk⟩ | ⟨hg, hk⟩
        · rw [opQ_eq] at hv
          exact ⟨o, v, ho, .inl ⟨hg, hq, fun hr x hx b hb => hB hr b (headsO_mem hx hb), hv⟩, planF_A B r _ _ hk⟩
        · exact ⟨o, .tup [], ho, .inr ⟨hg, rfl⟩, planF_A B r _ _ hk⟩
  | (false, i) :: r, ρ, σ, h => by
    simp only [planF] at h
    simp only [planA, stepI]
    split at h
    · exact h.elim
    · rename_i o ho
      rw [ho]
      simp only
      rw [opQ_eq] at h
      rcases gW_cases h with ⟨hg, h⟩ | ⟨hg, h⟩
      · rw [hg]
        exact ⟨fun _ => OpR.wp_mono (fun v σ hv => ⟨(ixW_Ix (I := SameAt B σ0) hv).1, planF_A B r _ _ (ixW_Ix (I := SameAt B σ0) hv).2⟩) _ h, fun h => by cases h⟩
      · rw [hg]
        exact ⟨fun h => (by cases h), fun _ => planF_A B r _ _ h⟩
theorem planW_A : ∀ (l : List (Bool × Nat)) (B : List Nat) (ρ : Env) (σ : St), planW C mu ops σ0 K Kp l B ρ σ → ∃ B', (∀ b ∈ B, b ∈ B') ∧ planA C mu ops B' σ0 K Kp l ρ σ
  | [], B, _, _, h => ⟨B, fun _ h => h, h⟩
  | (true, i) :: r, B, ρ, σ, h => by
    simp only [planW] at h
    split at h
    · exact h.elim
    · rename_i o ho
      split at h
      · exact h.elim
      · rename_i hq
        rcases quietO_cases (fun v hv => inlA_eq hv _ _) h with ⟨hg, v, hv, hk⟩ | ⟨hg, hk⟩
        · rw [opQ_eq] at hv
          obtain ⟨B', hB, hA⟩ := planW_A r _ _ _ hk
          refine ⟨B', fun b hb => hB b ?_, o, v, ho, .inl ⟨hg, hq, fun hr x hx b hb => hB b ?_, hv⟩, hA⟩
          · split
            · exact List.mem_append_right _ hb
            · exact hb
          · rw [hr]; exact List.mem_append_left _ (headsO_mem hx hb)
        · obtain ⟨B', hB, hA⟩ := planW_A r _ _ _ hk
          refine ⟨B', fun b hb => hB b ?_, o, .tup [], ho, .inr ⟨hg, rfl⟩, hA⟩
          split
          · exact List.mem_append_right _ hb
          · exact hb
  | (false, i) :: r, B, ρ, σ, h => ⟨B, fun _ h => h, planF_A B _ _ _ h⟩
end

/-! ### Ranges over functions -/
structure Qr where
  mid : (St → Prop) → St → Prop
  n : St → Prop
  e : Nat → St → Prop
  r : St → Prop
def FnR : Nat → Type
  | 0 => Qr → St → Prop
  | n + 1 => AV → FnR n
def FnR.app : (n : Nat) → FnR n → List AV → Qr → St → Prop
  | 0, f, _, q, σ => f q σ
  | n + 1, f, x :: xs, q, σ => FnR.app n (f x) xs q σ
  | n + 1, f, [], q, σ => FnR.app n (f .any) [] q σ
def FnR.lam : (n : Nat) → (List AV → Qr → St → Prop) → FnR n
  | 0, F => fun q σ => F [] q σ
  | n + 1, F => fun x => FnR.lam n (fun xs q σ => F (x :: xs) q σ)
theorem FnR.app_lam : ∀ (n : Nat) (F : List AV → Qr → St → Prop) (xs : List AV) (q : Qr) (σ : St), xs.length = n → FnR.app n (FnR.lam n F) xs q σ = F xs q σ
  | 0, F, [], q, σ, _ => rfl
  | n + 1, F, x :: xs, q, σ, h => FnR.app_lam n (fun xs σ => F (x :: xs) σ) xs q σ (by simpa using h)
  | 0, F, _ :: _, q, σ, h => by simp at h
  | n + 1, F, [], q, σ, h => by simp at h
def LoopA.st (L : LoopA) (s : LoopState) (p : Option Code) : LoopA := { L with state := s, pend := p }
def midR (o : Nat) (k : St → Prop) (σ : St) : Prop := ∃ L, σ.loop o = some L ∧ L.state = .ready ∧ k (σ.set o (.loop { L with state := .busy }))
def qrOf (o : Nat) (R : Res → St → Prop) : Qr where
  mid := midR o
  n := fun σ => ∃ L, σ.loop o = some L ∧ R (.ret (.bool true)) (σ.set o (.loop { L with state := .ready, pend := none }))
  e := fun id σ => ∃ L, σ.loop o = some L ∧ R (.ret (.bool false)) (σ.set o (.loop { L with state := .done, pend := some (.exit id) }))
  r := fun σ => ∃ L, σ.loop o = some L ∧ R (.ret (.bool false)) (σ.set o (.loop { L with state := .done, pend := some .ret }))
def rangeE (o : Nat) (Kn : St → Prop) (Ke : Nat → St → Prop) (Kr : St → Prop) (Kp : AV → St → Prop) : Res → St → Prop
  | .ret _, σ' => ∃ L, σ'.loop o = some L ∧ L.state ≠ .busy ∧ (match L.pend with
    | none => Kn (σ'.del o)
    | some .ret => Kr (σ'.del o)
    | some (.exit id) => Ke id (σ'.del o)
    | _ => False)
  | .panic x, σ' => Kp x σ'
def rangeW (C : Cfg) (np : Nat) (fv : AV) (σ : St) (B : FnR np) (Kn : St → Prop) (Ke : Nat → St → Prop) (Kr : St → Prop) (Kp : AV → St → Prop) : Prop :=
  match fv with
  | .func (.func fid) first cap => entersT C.P fid = true ∧ ∀ (o : Nat) (L : LoopA), σ.Fresh o → L.state = .ready → L.pend = none →
    (∀ (args : List AV) (σ1 : St) (R : Res → St → Prop) (L1 : LoopA), args.length = np → σ1.loop o = some L1 → L1.st .ready none = L → FnR.app np B args (qrOf o R) σ1 → YieldA C o args σ1 R) →
    CallA C fid (first ++ [.yld o] ++ cap) (σ.new o (.loop L)) (rangeE o Kn Ke Kr Kp)
  | _ => False

/-! ### Code -/
def exW (b : Bool) (A B : Prop) : Prop := match b with
  | true => A
  | false => B
def joinW (n : Nat) (J : Fn n) (B : Fn n → Prop) : Prop := ∀ j : Fn n, Fn.imp n J j → B j
def loopW (n : Nat) (init : List AV) (σ : St) (B : Fn n → Fn n) : Prop :=
  ∃ I : Nat → Fn n, (∃ m, Fn.app n (I m) init σ) ∧ ∀ m, Fn.imp n (I m) (B (Fn.lam n fun vs σ => ∃ m', m' < m ∧ Fn.app n (I m') vs σ))
inductive An where
  | z
  | sq (live : Option (List Nat)) (a b : An)
  | cd (a b : An)
  | bk (a : An)
  | lp (live : List Nat) (a : An)
  | rg (mu pf : List Nat) (plan : Option Pl)
  | rf (a b : An)
def wpC (C : Cfg) : Code → An → Qx → Env → St → Prop
  | .skip, _, Q, ρ, σ => Q.n ρ σ
  | .exit i, _, Q, ρ, σ => Q.e i ρ σ
  | .ret, _, Q, ρ, σ => Q.r ρ σ
  | .seq a b, .sq none x y, Q, ρ, σ => wpC C a x { Q with n := fun ρ σ => wpC C b y Q ρ σ } ρ σ
  | .seq a b, .sq (some live) x y, Q, ρ, σ => joinW live.length (Fn.lam live.length fun vs σ => wpC C b y Q (envS live vs) σ)
      fun j => wpC C a x { Q with n := fun ρ σ => Fn.app live.length j (live.map ρ.get) σ } ρ σ
  | .cond c a b, .cd x y, Q, ρ, σ => guardW (ρ.ev C c) (wpC C a x Q ρ σ) (wpC C b y Q ρ σ)
  | .block i a, .bk x, Q, ρ, σ => wpC C a x { Q with e := fun k ρ σ => exW (Nat.beq k i) (Q.n ρ σ) (Q.e k ρ σ) } ρ σ
  | .loop a, .lp live x, Q, ρ, σ => loopW live.length (live.map ρ.get) σ fun lp => Fn.lam live.length fun vs σ =>
      wpC C a x { Q with n := fun ρ σ => Fn.app live.length lp (live.map ρ.get) σ } (envS live vs) σ
  | .region _ ops false, .rg mu pf none, Q, ρ, σ => opsW C mu pf ops ops.toList ρ σ Q.n Q.p
  | .region _ ops true, .rg mu pf (some plan), Q, ρ, σ => planW C mu ops σ Q.n Q.p plan.steps [] ρ σ
  | .rangeFunc f ps a b, .rf x y, Q, ρ, σ => rangeW C ps.size (ρ.ev C f) σ (FnR.lam ps.size fun args qr σ => wpC C a x
      { n := fun ρ σ => qr.mid (fun σ => wpC C b y { n := fun _ σ => qr.n σ, e := fun i _ σ => qr.e i σ, r := fun _ σ => qr.r σ, p := fun _ _ => False } ρ σ) σ, e := fun _ _ _ => False, r := fun _ _ => False, p := fun _ _ => False }
      ⟨putL ρ.get ps.toList args⟩ σ) (fun σ => Q.n ρ σ) (fun i σ => Q.e i ρ σ) (fun σ => Q.r ρ σ) (fun x σ => Q.p x σ)
  | _, _, _, _, _ => False
/-- What is closed. -/
def okC (nt : Nat) : Bool → Code → An → Bool
  | _, .skip, _ => true
  | _, .exit _, _ => true
  | _, .ret, _ => true
  | top, .seq a b, .sq _ x y => okC nt top a x && okC nt top b y
  | top, .cond _ a b, .cd x y => okC nt top a x && okC nt top b y
  | top, .block _ a, .bk x => okC nt top a x
  | top, .loop a, .lp _ x => okC nt top a x
  | _, .region _ ops false, .rg _ _ none => opsOk nt ops
  | _, .region _ ops true, .rg _ _ (some plan) => opsOk nt ops && plOK ops plan
  | top, .rangeFunc _ ps a b, .rf x y => top && ps.toList.all (fun t => Nat.blt t nt) && okC nt false a x && okC nt false b y
  | _, _, _ => false

theorem wpC_sound {C : Cfg} {nt : Nat} (hm : C.P.follows .mixedOrders = true) : ∀ (c : Code) (an : An) (top : Bool) (ro : Ro) (Q : Qx) (ρ : Env) (σ : St), okC nt top c an = true → (top = true → ro = .fn) →
    wpC C c an Q ρ σ → CodeA C nt ro c Q.q ρ σ := by
  intro c
  induction c with
  | skip => intro an top ro Q ρ σ hok ht h; exact CodeA.skip h
  | exit i => intro an top ro Q ρ σ hok ht h; exact CodeA.exit h
  | ret => intro an top ro Q ρ σ hok ht h; exact CodeA.ret h
  | seq a b iha ihb =>
    intro an top ro Q ρ σ hok ht h
    cases an <;> simp only [okC, Bool.false_eq_true, Bool.and_eq_true] at hok
    rename_i live x y
    refine CodeA.seq ?_
    cases live with
    | none =>
      simp only [wpC] at h
      refine (iha x top ro _ ρ σ hok.1 ht h).mono fun e ρ σ he => ?_
      cases e <;> first | exact ihb y top ro Q ρ σ hok.2 ht he | exact he
    | some live =>
      simp only [wpC] at h
      have := h (Fn.lam live.length fun vs σ => CodeA C nt ro b Q.q (envS live vs) σ) (Fn.app_imp fun xs σ hl hx => by
        rw [Fn.app_lam _ _ _ _ hl] at hx ⊢
        exact ihb y top ro Q _ _ hok.2 ht hx)
      refine (iha x top ro _ ρ σ hok.1 ht this).mono fun e ρ σ he => ?_
      cases e with
      | normal =>
        have he' : Fn.app live.length (Fn.lam live.length fun vs σ => CodeA C nt ro b Q.q (envS live vs) σ) (live.map ρ.get) σ := he
        rw [Fn.app_lam _ _ _ _ (by simp)] at he'
        exact CodeA.weakenE he' (envS_weak ρ live)
      | exit i => exact he
      | ret => exact he
      | panic x => exact he
  | cond c a b iha ihb =>
    intro an top ro Q ρ σ hok ht h
    cases an <;> simp only [okC, Bool.false_eq_true, Bool.and_eq_true] at hok
    rename_i x y
    simp only [wpC] at h
    cases hc : ρ.ev C c <;> rw [hc] at h <;> simp only [guardW] at h
    exact CodeA.cond hc (fun e => iha x top ro Q ρ σ hok.1 ht (h.1 e)) (fun e => ihb y top ro Q ρ σ hok.2 ht (h.2 e))
  | block i a iha =>
    intro an top ro Q ρ σ hok ht h
    cases an <;> simp only [okC, Bool.false_eq_true] at hok
    rename_i x
    simp only [wpC] at h
    refine CodeA.block ((iha x top ro _ ρ σ hok ht h).mono fun e ρ σ he => ?_)
    cases e with
    | exit k =>
      have he' : exW (Nat.beq k i) (Q.n ρ σ) (Q.e k ρ σ) := he
      simp only [blockQ]
      cases hb : Nat.beq k i with
      | true => rw [hb] at he'; rw [if_pos (Nat.eq_of_beq_eq_true hb)]; exact he'
      | false => rw [hb] at he'; rw [if_neg (fun e => by subst e; simp at hb)]; exact he'
    | normal => exact he
    | ret => exact he
    | panic x => exact he
  | loop a iha =>
    intro an top ro Q ρ σ hok ht h
    cases an <;> simp only [okC, Bool.false_eq_true] at hok
    rename_i live x
    simp only [wpC] at h
    obtain ⟨I, ⟨m, h0⟩, hr⟩ := h
    refine CodeA.loop (fun m ρ σ => Fn.app live.length (I m) (live.map ρ.get) σ) (n := m) h0 fun m ρ σ hI => ?_
    have := Fn.imp_app (hr m) _ _ (by simp) hI
    rw [Fn.app_lam _ _ _ _ (by simp)] at this
    refine CodeA.weakenE ((iha x top ro _ _ _ hok ht this).mono fun e ρ' σ' he => ?_) (envS_weak ρ live)
    cases e with
    | normal =>
      have he' : Fn.app live.length (Fn.lam live.length fun vs σ => ∃ m', m' < m ∧ Fn.app live.length (I m') vs σ) (live.map ρ'.get) σ' := he
      rw [Fn.app_lam _ _ _ _ (by simp)] at he'
      exact he'
    | exit i => exact he
    | ret => exact he
    | panic x => exact he
  | region id ops draw =>
    intro an top ro Q ρ σ hok ht h
    have kp : KpQ Q.q = fun x σ => ∀ ρ : Env, Q.p x σ := rfl
    cases draw with
    | false =>
      cases an with
      | rg mu pf plan =>
        cases plan with
        | none =>
          simp only [okC] at hok
          simp only [wpC] at h
          refine CodeA.region mu hok ?_
          have h2 := opsW_A _ ρ σ h
          exact opsA_mono (fun _ _ h => h) (fun v σ hv ρ => hv) _ h2
        | some plan => simp [okC] at hok
      | _ => simp [okC] at hok
    | true =>
      cases an with
      | rg mu pf plan =>
        cases plan with
        | none => simp [okC] at hok
        | some plan =>
          simp only [okC, Bool.and_eq_true] at hok
          simp only [wpC] at h
          obtain ⟨B, _, hA⟩ := planW_A _ _ _ _ h
          refine CodeA.regionPlan mu B plan.steps hm hok.1 (plOK_ok hok.2) ?_
          exact planA_mono (fun _ _ h => h) (fun v σ hv ρ => hv) _ hA
      | _ => simp [okC] at hok
  | rangeFunc f ps a b iha ihb =>
    intro an top ro Q ρ σ hok ht h
    cases an <;> simp only [okC, Bool.false_eq_true, Bool.and_eq_true] at hok
    rename_i x y
    obtain ⟨⟨⟨h1, h2⟩, h3⟩, h4⟩ := hok
    have hro := ht h1
    subst hro
    simp only [wpC, rangeW] at h
    split at h
    · rename_i fid first cap hf
      obtain ⟨hent, h⟩ := h
      refine CodeA.rangeFunc 0 hf hent fun o ho => ?_
      refine (h o ⟨ρ.get, nt, ps, a, b, .ready, none, 0⟩ ho rfl rfl ?_).mono fun r σ' hr => ?_
      · intro args σ1 R L1 hl hL1 hst hB
        obtain ⟨r1, r2, r3, r4, r5, r6, r7, r8⟩ := L1
        simp only [LoopA.st, LoopA.mk.injEq, true_and] at hst
        obtain ⟨e1, e2, e3, e4, e5, e6⟩ := hst
        subst e1 e2 e3 e4 e5 e6
        rw [FnR.app_lam _ _ _ _ _ hl] at hB
        refine YieldA.of_round hL1 (by simpa using hl) (fun t ht => by
          have := List.all_eq_true.1 h2 t ht
          exact Nat.le_of_ble_eq_true this) ?_
        refine (iha x false (.round o) _ _ _ h3 (fun h => by cases h) hB).mono fun e ρ' σ' he => ?_
        cases e with
        | normal =>
          obtain ⟨L, k1, k2, k3⟩ := he
          refine ⟨L, k1, k2, (ihb y false (.round o) _ _ _ h4 (fun h => by cases h) k3).mono fun e ρ2 σ2 he => ?_⟩
          cases e with
          | normal => exact he
          | exit i => exact he
          | ret => exact he
          | panic x => exact he
        | exit i => exact he
        | ret => exact he
        | panic x => exact he
      · cases r with
        | ret v =>
          obtain ⟨L, k1, k2, k3⟩ := hr
          refine ⟨L, k1, k2, ?_⟩
          split at k3
          · rename_i hp; rw [hp]; exact k3
          · rename_i hp; rw [hp]; exact k3
          · rename_i hp; rw [hp]; exact k3
          · exact k3.elim
        | panic v => exact hr
    · exact h.elim
  | scope a iha => intro an top ro Q ρ σ hok; cases an <;> simp [okC] at hok
  | label l => intro an top ro Q ρ σ hok; cases an <;> simp [okC] at hok
  | goto l => intro an top ro Q ρ σ hok; cases an <;> simp [okC] at hok
  | refuse w => intro an top ro Q ρ σ hok; cases an <;> simp [okC] at hok

/-! ### Functions -/
def loadRW (vt : Option (Bool × Nat)) (p : AV) (σ : St) (k : AV → Prop) : Prop := match loadR vt p σ with
  | .val v => k v
  | @OpR.cond q _ (.val v) => q ∧ k v
  | _ => False
def resQ (P : Program) (ρ : Env) (σ : St) : List ResultVar → (List AV → Prop) → Prop
  | [], k => k []
  | .tmp t :: rs, k => resQ P ρ σ rs fun vs => k (ρ.get t :: vs)
  | .cell t ty :: rs, k => loadRW (varT P ty) (ρ.get t) σ fun v => resQ P ρ σ rs fun vs => k (v :: vs)
theorem resQ_A {P : Program} {ρ : Env} {σ : St} : ∀ (l : List ResultVar) (k : List AV → Prop), resQ P ρ σ l k → resA P ρ σ l k
  | [], _, h => h
  | .tmp t :: rs, k, h => resQ_A rs _ h
  | .cell t ty :: rs, k, h => by
    simp only [resQ, loadRW] at h
    simp only [resA, loadW]
    rw [show loadA P ty (ρ.get t) σ = loadR (varT P ty) (ρ.get t) σ from rfl]
    split at h
    · rename_i hl; rw [hl]; exact resQ_A rs _ h
    · rename_i hl; rw [hl]; exact ⟨h.1, resQ_A rs _ h.2⟩
    · exact h.elim
/-- A result is handed back. -/
def retW (R : Res → St → Prop) (x : AV) (σ : St) : Prop := ∃ x' σ', Turn x σ x' σ' ∧ R (.ret x') σ'
def pncW (R : Res → St → Prop) (x : AV) (σ : St) : Prop := R (.panic x) σ
def retX (P : Program) (fn : Func) (R : Res → St → Prop) : Qx where
  n := fun ρ σ => resQ P ρ σ fn.results.toList fun vs => retW R (tupR vs) σ
  e := fun _ _ _ => False
  r := fun ρ σ => resQ P ρ σ fn.results.toList fun vs => retW R (tupR vs) σ
  p := pncW R
def bodyW (C : Cfg) (fn : Func) (an : An) (args : List AV) (R : Res → St → Prop) (σ : St) : Prop := match fn.body with
  | some c => wpC C c an (retX C.P fn R) (Env.ofArgs args) σ
  | none => False
def okF (fn : Func) (an : An) (n : Nat) : Bool := match fn.body with
  | some c => okC fn.ntmps true c an && Nat.ble n fn.ntmps
  | none => false
theorem CallA.of_body {C : Cfg} (hm : C.P.follows .mixedOrders = true) {f : FuncId} {fn : Func} (an : An) {args : List AV} {R : Res → St → Prop} {σ : St} (hf : C.P.funcs[f]? = some fn) (hok : okF fn an args.length = true)
    (h : bodyW C fn an args R σ) : CallA C f args σ R := by
  unfold okF at hok
  unfold bodyW at h
  split at hok
  · rename_i c hb
    rw [hb] at h
    simp only [Bool.and_eq_true] at hok
    refine CallA.of_code hf hb (Nat.le_of_ble_eq_true hok.2) ?_
    refine (wpC_sound hm c an true .fn _ _ _ hok.1 (fun _ => rfl) h).mono fun e ρ σ he => ?_
    cases e with
    | normal => exact resQ_A _ _ he
    | ret => exact resQ_A _ _ he
    | panic x => exact he
    | exit i => exact he
  · cases hok
theorem retW.mk {R : Res → St → Prop} {x : AV} {σ : St} (h : R (.ret x) σ) : retW R x σ := ⟨x, σ, Turn.refl _ _, h⟩
end Go.Rip

set_option linter.unusedSimpArgs false
set_option linter.unusedVariables false
namespace Go.Rip
open Go.RowKit
/-! Rules of the preconditions. -/
section
variable {C : Cfg} {σ : St} {K : AV → St → Prop} {Kp : AV → St → Prop}
@[simp] theorem wp_val (v : AV) : (OpR.val v).wp C σ K Kp = K v σ := rfl
@[simp] theorem wp_upd (v : AV) (b : Nat) (x : Live) : (OpR.upd v b x).wp C σ K Kp = K v (σ.set b x) := rfl
@[simp] theorem wp_new (k : NV) (x : Live) : (OpR.new k none x).wp C σ K Kp = ∀ b, σ.Fresh b → K (k.at b) (σ.new b x) := rfl
@[simp] theorem wp_newd (k : NV) (d : Nat) (x : Live) : (OpR.new k (some d) x).wp C σ K Kp = ∀ b, (σ.del d).Fresh b → K (k.at b) ((σ.del d).new b x) := rfl
@[simp] theorem wp_enter (f : FuncId) (args : List AV) : (OpR.enter f args).wp C σ K Kp = CallA C f args σ (contA K Kp) := rfl
@[simp] theorem wp_yield (f : Nat) (args : List AV) : (OpR.yield f args).wp C σ K Kp = YieldA C f args σ (contA K Kp) := rfl
@[simp] theorem wp_panic (v : AV) : (OpR.panic v).wp C σ K Kp = Kp v σ := rfl
@[simp] theorem wp_cond (p : Prop) [Decidable p] (r : OpR) : (OpR.cond p r).wp C σ K Kp = (p ∧ r.wp C σ K Kp) := rfl
@[simp] theorem wp_bad : OpR.bad.wp C σ K Kp = False := rfl
@[simp] theorem wp_ite (p : Prop) [Decidable p] (r s : OpR) : (if p then r else s).wp C σ K Kp = if p then r.wp C σ K Kp else s.wp C σ K Kp := by split <;> rfl
@[simp] theorem contA_ret (x : AV) : contA K Kp (.ret x) σ = K x σ := rfl
@[simp] theorem contA_panic (x : AV) : contA K Kp (.panic x) σ = Kp x σ := rfl
end
@[simp] theorem guardW_bool (b : Bool) (A B : Prop) : guardW (.bool b) A B = ((b = true → A) ∧ (b = false → B)) := rfl
theorem guardW_t (A B : Prop) : guardW (.bool true) A B = A := by simp [guardW]
theorem guardW_f (A B : Prop) : guardW (.bool false) A B = B := by simp [guardW]
theorem guardW_dec (p : Prop) [Decidable p] (A B : Prop) : guardW (.bool (decide p)) A B = ((p → A) ∧ (¬ p → B)) := by simp [guardW]
@[simp] theorem gvR_bool (b w : Bool) : gvR (.bool b) w = .bool (b == w) := rfl
@[simp] theorem gvR_tup (w : Bool) : gvR (.tup []) w = .bool false := rfl
@[simp] theorem selA_t (v : AV) : selA true v = v := rfl
@[simp] theorem selA_f (v : AV) : selA false v = .tup [] := rfl
@[simp] theorem quietG_bool (C : Cfg) (b : Bool) (r : OpR) (k : AV → Prop) : quietG C (.bool b) r k = quietB C b r k := rfl
@[simp] theorem quietB_val (C : Cfg) (b : Bool) (v : AV) (k : AV → Prop) : quietB C b (.val v) k = k (selA b v) := rfl
@[simp] theorem quietB_cond (C : Cfg) (b : Bool) (p : Prop) [Decidable p] (r : OpR) (k : AV → Prop) : quietB C b (.cond p r) k = ((b = true → p) ∧ quietB C b r k) := rfl
@[simp] theorem quietB_enter (C : Cfg) (b : Bool) (f : FuncId) (args : List AV) (k : AV → Prop) : quietB C b (.enter f args) k = ∃ v, (b = true → Pure C f args v) ∧ k (selA b v) := rfl
@[simp] theorem quietB_f (C : Cfg) (k : AV → Prop) : ∀ r : OpR, (quietB C false r k) = k (.tup [])
  | .val v => rfl
  | @OpR.cond _ _ r => by simp only [quietB]; rw [quietB_f C k r]; simp
  | .enter _ _ => by simp [quietB]
  | .upd _ _ _ => by simp [quietB]
  | .new _ _ _ => by simp [quietB]
  | .anyOf _ _ => by simp [quietB]
  | .yield _ _ => by simp [quietB]
  | .panic _ => by simp [quietB]
  | .bad => by simp [quietB]
@[simp] theorem quietW_val (C : Cfg) (v : AV) (k : AV → Prop) : quietW C (.val v) k = k v := rfl
@[simp] theorem quietW_cond (C : Cfg) (p : Prop) [Decidable p] (r : OpR) (k : AV → Prop) : quietW C (.cond p r) k = (p ∧ quietW C r k) := rfl
@[simp] theorem quietW_enter (C : Cfg) (f : FuncId) (args : List AV) (k : AV → Prop) : quietW C (.enter f args) k = ∃ v, Pure C f args v ∧ k v := rfl
theorem quietB_true_W (C : Cfg) (k : AV → Prop) : ∀ r : OpR, quietW C r k → quietB C true r k
  | .val v, h => h
  | @OpR.cond _ _ r, h => ⟨fun _ => h.1, quietB_true_W C k r h.2⟩
  | .enter _ _, h => let ⟨v, a, b⟩ := h; ⟨v, fun _ => a, b⟩
  | .upd _ _ _, h => h.elim
  | .new _ _ _, h => h.elim
  | .anyOf _ _, h => h.elim
  | .yield _ _, h => h.elim
  | .panic _, h => h.elim
  | .bad, h => h.elim
theorem quietB_true_iff (C : Cfg) (k : AV → Prop) : ∀ r : OpR, quietB C true r k = quietW C r k
  | .val v => rfl
  | @OpR.cond _ _ r => by simp only [quietB, quietW, quietB_true_iff C k r]; simp
  | .enter _ _ => by simp [quietB, quietW]
  | .upd _ _ _ => by simp [quietB, quietW]
  | .new _ _ _ => by simp [quietB, quietW]
  | .anyOf _ _ => by simp [quietB, quietW]
  | .yield _ _ => by simp [quietB, quietW]
  | .panic _ => by simp [quietB, quietW]
  | .bad => by simp [quietB, quietW]
@[simp] theorem quietB_t (C : Cfg) (k : AV → Prop) (r : OpR) : quietB C true r k = quietW C r k := quietB_true_iff C k r
theorem quietB_dec (C : Cfg) (k : AV → Prop) (r : OpR) (p : Prop) [Decidable p] : quietB C (decide p) r k = ((p → quietW C r k) ∧ (¬ p → k (.tup []))) := by
  by_cases h : p <;> simp [h]
theorem quietB_ndec (C : Cfg) (k : AV → Prop) (r : OpR) (p : Prop) [Decidable p] : quietB C (!decide p) r k = ((p → k (.tup [])) ∧ (¬ p → quietW C r k)) := by
  by_cases h : p <;> simp [h]
theorem quietB_var (C : Cfg) (k : AV → Prop) (r : OpR) (b : Bool) : quietB C b r k = ((b = true → quietW C r k) ∧ (b = false → k (.tup []))) := by
  cases b <;> simp
@[simp] theorem pickA_bool (b : Bool) (x y : AV) : pickA (.bool b) x y = .val (if b = true then x else y) := rfl
@[simp] theorem ite_bool (b x y : Bool) : (if b = true then AV.bool x else AV.bool y) = .bool (if b = true then x else y) := by split <;> rfl
/-! Comparisons -/
section
variable (bt : BT) (l : Bool) (k : IntKind) (a b : Int) (s t : List UInt8)
@[simp] theorem bin_eql_int : binR .eql bt l (.int k a) (.int k b) = .val (.bool (decide (a = b))) := by simp only [binR, if_true]; rfl
@[simp] theorem bin_neq_int : binR .neq bt l (.int k a) (.int k b) = .val (.bool (!decide (a = b))) := by simp only [binR, if_true]; rfl
@[simp] theorem bin_lss_int : binR .lss bt l (.int k a) (.int k b) = .val (.bool (decide (a < b))) := by simp only [binR, if_true]
@[simp] theorem bin_leq_int : binR .leq bt l (.int k a) (.int k b) = .val (.bool (decide (a ≤ b))) := by simp only [binR, if_true]
@[simp] theorem bin_gtr_int : binR .gtr bt l (.int k a) (.int k b) = .val (.bool (decide (b < a))) := by simp only [binR, if_true, gt_iff_lt]
@[simp] theorem bin_geq_int : binR .geq bt l (.int k a) (.int k b) = .val (.bool (decide (b ≤ a))) := by simp only [binR, if_true, ge_iff_le]
@[simp] theorem bin_add_int : binR .add bt l (.int k a) (.int k b) = arithA k (a + b) := by simp only [binR, if_true]
@[simp] theorem bin_sub_int : binR .sub bt l (.int k a) (.int k b) = arithA k (a - b) := by simp only [binR, if_true]
@[simp] theorem bin_mul_int : binR .mul bt l (.int k a) (.int k b) = arithA k (a * b) := by simp only [binR, if_true]
@[simp] theorem bin_quo_int : binR .quo bt l (.int k a) (.int k b) = .cond (b ≠ 0) (arithA k (a.tdiv b)) := by simp only [binR, if_true]
@[simp] theorem bin_rem_int : binR .rem bt l (.int k a) (.int k b) = .cond (b ≠ 0) (.val (.int k (a.tmod b))) := by simp only [binR, if_true]
@[simp] theorem bin_eql_str : binR .eql bt l (.str s) (.str t) = .val (.bool (decide (s = t))) := by
  show OpR.val (.bool (s == t)) = _
  rw [show (s == t) = decide (s = t) from Bool.eq_iff_iff.2 (by simp)]
@[simp] theorem bin_neq_str : binR .neq bt l (.str s) (.str t) = .val (.bool (!decide (s = t))) := by
  show OpR.val (.bool (s != t)) = _
  rw [show (s != t) = !decide (s = t) from Bool.eq_iff_iff.2 (by simp)]
@[simp] theorem bin_add_str : binR .add bt l (.str s) (.str t) = .cond (s.length + t.length ≤ 4294967296) (.val (.str (s ++ t))) := rfl
@[simp] theorem bin_eql_bool (x y : Bool) (i p : Bool) (f : Option (List FK)) : binR .eql ⟨true, i, p, f⟩ l (.bool x) (.bool y) = .val (.bool (x == y)) := by simp only [binR, if_true]
@[simp] theorem bin_neq_bool (x y : Bool) (i p : Bool) (f : Option (List FK)) : binR .neq ⟨true, i, p, f⟩ l (.bool x) (.bool y) = .val (.bool (x != y)) := by simp only [binR, if_true]
@[simp] theorem bin_eql_agg (x y : List AV) (i p q : Bool) (f : List FK) : binR .eql ⟨q, i, p, some f⟩ l (.agg x) (.agg y) = valO .bool (eqK f x y) := rfl
@[simp] theorem bin_neq_agg (x y : List AV) (i p q : Bool) (f : List FK) : binR .neq ⟨q, i, p, some f⟩ l (.agg x) (.agg y) = valO (fun r => .bool (!r)) (eqK f x y) := rfl
@[simp] theorem valO_some (f : Bool → AV) (r : Bool) : valO f (some r) = .val (f r) := rfl
@[simp] theorem un_not (x : Bool) : unA .not (.bool x) = .val (.bool (!x)) := rfl
@[simp] theorem arith_i64 : arithA .i64 a = .cond (I64 a) (.val (.int .i64 a)) := rfl
@[simp] theorem arith_u8 : arithA .u8 a = .val (.int .u8 (IntKind.u8.wrap a)) := rfl
end
theorem i64_of {n : Int} (h1 : -9223372036854775808 ≤ n) (h2 : n ≤ 9223372036854775807) : I64 n := ⟨h1, h2⟩
/-! Loads, stores, addresses -/
section
variable (sz b o : Nat) (p v : AV) (σ : St) (L l : List AV)
theorem load_box {σ : St} {b : Nat} {L : List AV} (h : σ.box b = some L) (n o : Nat) : loadR (some (false, n)) (.box b o) σ = headR (L.drop o) := by simp [loadR, cellsAt, h]
theorem load_boxA {σ : St} {b : Nat} {L : List AV} (h : σ.box b = some L) (n o : Nat) : loadR (some (true, n)) (.box b o) σ = .cond (n ≤ (L.drop o).length) (.val (.agg ((L.drop o).take n))) := by simp [loadR, cellsAt, h]
@[simp] theorem load_eptr : loadR (some (false, sz)) (.eptr L) σ = headR L := rfl
@[simp] theorem load_eptrA : loadR (some (true, sz)) (.eptr L) σ = .cond (sz ≤ L.length) (.val (.agg (L.take sz))) := rfl
@[simp] theorem headR_cons (x : AV) : headR (x :: L) = .val x := rfl
theorem store_box {σ : St} {b : Nat} {L : List AV} (h : σ.box b = some L) (t : Bool) (n o : Nat) (v : AV) : storeR (some (t, n)) (.box b o) v σ = .cond (v.lies = true ∧ (cellsA v).length = n ∧ o + n ≤ L.length) (.upd (.tup []) b (.box (spliceL L o (cellsA v)))) := by simp [storeR, h]
@[simp] theorem nilCheck_box : nilCheckA (.box b o) = .val (.box b o) := rfl
@[simp] theorem nilCheck_eptr : nilCheckA (.eptr L) = .val (.eptr L) := rfl
@[simp] theorem nilCheck_func (f : Nat) (x y : List AV) : nilCheckA (.func (.func f) x y) = .val (.func (.func f) x y) := rfl
@[simp] theorem fieldAddr_box (k : Nat) : fieldAddrR (some k) (.box b o) = .val (.box b (o + k)) := rfl
@[simp] theorem fieldAddr_eptr (k : Nat) : fieldAddrR (some k) (.eptr L) = .val (.eptr (L.drop k)) := rfl
@[simp] theorem fieldVal_f (k n : Nat) : fieldValR (some (k, false, n)) (.agg L) = headR (L.drop k) := rfl
@[simp] theorem fieldVal_t (k n : Nat) : fieldValR (some (k, true, n)) (.agg L) = .cond (k + n ≤ L.length) (.val (.agg ((L.drop k).take n))) := rfl
@[simp] theorem indexAddr_vec (e n : Nat) (c : Cap) (k : IntKind) (j : Int) (at_ : Option (Nat × TypeId × Nat)) : indexAddrR (some (e, sz)) at_ (.vec n c L) (.int k j) = .cond (0 ≤ j ∧ j < n) (.val (.eptr (L.drop (j.toNat * sz)))) := rfl
@[simp] theorem indexAddr_ms (e n z t : Nat) (k : IntKind) (j : Int) (at_ : Option (Nat × TypeId × Nat)) : indexAddrR (some (e, sz)) at_ (.ms b o n z t) (.int k j) = .cond (0 ≤ j ∧ j < n ∧ z = sz) (.val (.box b (o + j.toNat * sz))) := rfl
@[simp] theorem index_str (s : List UInt8) (k : IntKind) (j : Int) (at_ : Option (Nat × TypeId × Nat)) (vt : Option (Bool × Nat)) : indexR true at_ vt (.str s) (.int k j) = .cond (0 ≤ j ∧ j < s.length) (.val (.int .u8 (s.getD j.toNat 0).toNat)) := by simp [indexR]
@[simp] theorem len_str (s : List UInt8) : lenR (some true) (.str s) = .val (.int .i64 s.length) := rfl
@[simp] theorem len_vec (n : Nat) (c : Cap) : lenR (some false) (.vec n c L) = .val (.int .i64 n) := rfl
@[simp] theorem len_ms (n z e : Nat) : lenR (some false) (.ms b o n z e) = .val (.int .i64 n) := rfl
@[simp] theorem len_nil : lenR (some false) .nilslice = .val (.int .i64 0) := rfl
@[simp] theorem extract_tup (k : Nat) : extractA (.tup L) k = headR (L.drop k) := rfl
@[simp] theorem cells_agg : cellsA (.agg L) = L := rfl
@[simp] theorem cells_int (k : IntKind) (n : Int) : cellsA (.int k n) = [.int k n] := rfl
@[simp] theorem cells_str (s : List UInt8) : cellsA (.str s) = [.str s] := rfl
@[simp] theorem cells_bool (x : Bool) : cellsA (.bool x) = [.bool x] := rfl
@[simp] theorem cells_box : cellsA (.box b o) = [.box b o] := rfl
@[simp] theorem cells_vec (n : Nat) (c : Cap) : cellsA (.vec n c L) = [.vec n c L] := rfl
@[simp] theorem cells_ms (n z e : Nat) : cellsA (.ms b o n z e) = [.ms b o n z e] := rfl
@[simp] theorem cells_nilslice : cellsA .nilslice = [.nilslice] := rfl
@[simp] theorem cells_nilptr : cellsA .nilptr = [.nilptr] := rfl
@[simp] theorem cells_func (f : Go.Fn) (x y : List AV) : cellsA (.func f x y) = [.func f x y] := rfl
@[simp] theorem cells_fmap (x y : List AV) : cellsA (.fmap x y) = [.fmap x y] := rfl
@[simp] theorem cells_mp (m : Nat) : cellsA (.mp m) = [.mp m] := rfl
@[simp] theorem lies_agg : (AV.agg L).lies = true := rfl
@[simp] theorem lies_int (k : IntKind) (n : Int) : (AV.int k n).lies = true := rfl
@[simp] theorem lies_str (s : List UInt8) : (AV.str s).lies = true := rfl
@[simp] theorem lies_bool (x : Bool) : (AV.bool x).lies = true := rfl
@[simp] theorem lies_box : (AV.box b o).lies = true := rfl
@[simp] theorem lies_vec (n : Nat) (c : Cap) : (AV.vec n c L).lies = true := rfl
@[simp] theorem lies_ms (n z e : Nat) : (AV.ms b o n z e).lies = true := rfl
@[simp] theorem lies_nilslice : AV.nilslice.lies = true := rfl
@[simp] theorem lies_nilptr : AV.nilptr.lies = true := rfl
@[simp] theorem lies_func (f : Go.Fn) (x y : List AV) : (AV.func f x y).lies = true := rfl
@[simp] theorem lies_fmap (x y : List AV) : (AV.fmap x y).lies = true := rfl
@[simp] theorem lies_mp (m : Nat) : (AV.mp m).lies = true := rfl
@[simp] theorem boxA_lies (h : v.lies = true) : boxA v = .cond True (.newBox (cellsA v)) := by simp [boxA, h]
@[simp] theorem slice_str (s : List UInt8) (sl : Option (TypeId × Nat)) (lo hi : Option AV) : sliceR true sl (.str s) lo hi = (match boundA 0 lo, boundA s.length hi with
    | some l, some h => .cond (0 ≤ l ∧ l ≤ h ∧ h ≤ s.length) (.val (.str ((s.take h.toNat).drop l.toNat)))
    | _, _ => .bad) := by
  simp only [sliceR]
  cases boundA 0 lo <;> cases boundA (s.length : Int) hi <;> rfl
@[simp] theorem bound_none (d : Int) : boundA d none = some d := rfl
@[simp] theorem bound_int (d : Int) (k : IntKind) (n : Int) : boundA d (some (.int k n)) = some n := rfl
@[simp] theorem slice_vec (e n : Nat) (c : Cap) (lo hi : Option AV) (st : Bool) : sliceR st (some (e, sz)) (.vec n c L) lo hi = (match boundA 0 lo, boundA n hi with
    | some a, some b => .cond (0 ≤ a ∧ a ≤ b ∧ b ≤ n) (.val (.vec (b.toNat - a.toNat) (capSl c hi) ((L.take (b.toNat * sz)).drop (a.toNat * sz))))
    | _, _ => .bad) := by
  simp only [sliceR]
  cases boundA 0 lo <;> cases boundA (n : Int) hi <;> rfl
@[simp] theorem max_int (k : IntKind) (a b : Int) : maxA (.int k a) (.int k b) = .val (.int k (if b > a then b else a)) := by simp [maxA]
@[simp] theorem min_int (k : IntKind) (a b : Int) : minA (.int k a) (.int k b) = .val (.int k (if b < a then b else a)) := by simp [minA]
end
theorem retW.eq {R : Res → St → Prop} {x y : AV} {σ : St} (h : R (.ret y) σ) (e : x = y) : retW R x σ := by subst e; exact retW.mk h
theorem Pure.go {C : Cfg} {f : FuncId} {args : List AV} {x : AV} {K : AV → St → Prop} {Kp : AV → St → Prop} {σ : St} (h : Pure C f args x) (hk : K x σ) : CallA C f args σ (contA K Kp) := h σ _ hk
end Go.Rip

set_option linter.unusedSimpArgs false
set_option linter.unusedVariables false
namespace Go.Rip
open Go.RowKit
/-! ### Calls that only read -/
mutual
def flat : AV → Bool
  | .bool _ | .int _ _ | .str _ | .nilptr | .nilslice | .nilmap | .nilfunc | .niliface => true
  | .iface _ v => flat v
  | .agg l => flatL l
  | .tup l => flatL l
  | _ => false
def flatL : List AV → Bool
  | [] => true
  | x :: xs => flat x && flatL xs
end
mutual
theorem Rep.flat {g g' : Gh} : ∀ (x : AV) (v : Value), flat x = true → Rep g x v → Rep g' x v
  | .bool _, _, _, hr => hr
  | .int _ _, _, _, hr => hr
  | .str _, _, _, hr => hr
  | .nilptr, _, _, hr => hr
  | .nilslice, _, _, hr => hr
  | .nilmap, _, _, hr => hr
  | .nilfunc, _, _, hr => hr
  | .niliface, _, _, hr => hr
  | .iface t x, v, h, hr => by
    simp only [Rip.flat] at h
    simp only [Rep] at hr ⊢
    obtain ⟨u, h1, h2⟩ := hr
    exact ⟨u, h1, Rep.flat x u h h2⟩
  | .agg l, v, h, hr => by
    simp only [Rip.flat] at h
    simp only [Rep] at hr ⊢
    obtain ⟨vs, h1, h2, h3⟩ := hr
    exact ⟨vs, h1, h2, RepL.flat l _ h h3⟩
  | .tup l, v, h, hr => by
    simp only [Rip.flat] at h
    simp only [Rep] at hr ⊢
    obtain ⟨vs, h1, h3⟩ := hr
    exact ⟨vs, h1, RepL.flat l _ h h3⟩
theorem RepL.flat {g g' : Gh} : ∀ (l : List AV) (vs : List Value), flatL l = true → RepL g l vs → RepL g' l vs
  | [], vs, _, h => by cases vs <;> simp_all [RepL]
  | x :: xs, vs, h, hr => by
    simp only [flatL, Bool.and_eq_true] at h
    simp only [RepL] at hr ⊢
    obtain ⟨v, vs', h1, h2, h3⟩ := hr
    exact ⟨v, vs', h1, Rep.flat x v h.1 h2, RepL.flat xs vs' h.2 h3⟩
end
theorem CallA.reader' {C : Cfg} {f : Nat} {args args0 : List AV} {σ : St} {R : Res → St → Prop} {x : AV} (d : Nat) (hglob : ∀ i, closed (C.glob i) = true)
    (hw : ∀ g vs, RepL g (args.map (resolve d σ)) vs → RepL g args0 vs) (hargs : closedL args0 = true) (hx : flat x = true) (h : Pure C f args0 x) (hR : R (.ret x) σ) : CallA C f args σ R := by
  intro g w vs hs hG ha
  have hla := hs.le_all
  let g0 : Gh := { base := w.heap.size, w0 := w, place := fun _ => none, imm := (g.all w).imm, imap := (g.all w).imap, res := fun _ => false }
  have hs0 : Sim g0 (stOf ⟨.e, 0⟩) w := {
    below := Below.refl _ _
    le := Nat.le_refl _
    imm := fun q o u hu => all_imm_ok hs q o u hu
    imap := fun q es c hu => all_imap_ok hs q es c hu
    live := fun b x hb => by cases hb
    apart := fun b b' x x' p p' hb => by cases hb
    res := fun r hr => by cases hr
    fin := ⟨0, fun n hn => by cases hn; rfl, fun _ _ => rfl⟩ }
  have hG0 : GlobOK C g0 := ⟨fun i => Rep.closed (g := g) (g' := g0) (fun _ _ _ h => hla.imm _ _ _ h) (fun _ _ h => hla.imap _ _ h) _ _ (hglob i) (hG.1 i), fun i cs hi => by
    obtain ⟨k1, t, fr, k2⟩ := hG.2 i cs hi
    refine ⟨Nat.lt_of_lt_of_le k1 hs.le, t, fr, ?_⟩
    show w.heap[i]? = _
    rw [hs.below.block i k1]; exact k2⟩
  have ha0 : RepL g0 args0 vs := RepL.closed (g := g.all w) (g' := g0) (fun _ _ _ h => h) (fun _ _ h => h) _ _ hargs (hw _ _ (repL_map (fun x v _ hr => resolve_rep hs d x v hr) ha))
  refine (h (stOf ⟨.e, 0⟩) (fun r _ => r = .ret x) rfl g0 w vs hs0 hG0 ha0).mono ?_
  rintro e w' hp
  cases e with
  | panicked ch => obtain ⟨g', σ', y, v, _, _, _, _, hz⟩ := hp; cases hz
  | outgrown => exact hp.elim
  | returned v =>
    obtain ⟨g', σ', y, h1, h2, h3, hz⟩ := hp
    cases hz
    have hle2 := h2.le_all
    have hle := h1.trans hle2
    have hbel : Below w.heap.size w w' := by
      have := h2.below
      rw [h1.base, h1.w0] at this
      exact this
    let gF : Gh := { base := g.base, w0 := g.w0, place := g.place, imm := g.imm, imap := g.imap, res := g.res }
    have hleF : Gh.Le g gF := ⟨rfl, rfl, fun _ _ h => h, fun b o u hu => hu, fun b u hu => hu, fun _ h => h, fun _ _ _ => rfl, fun _ _ => rfl⟩
    refine ⟨gF, σ, x, hleF, ?_, Rep.flat x v hx h3, hR⟩
    exact {
      below := hs.below.trans (hbel.mono hs.le)
      le := Nat.le_trans hs.le hbel.size
      imm := fun q o u hu => all_imm_ok h2 q o u (hle.imm _ _ _ (hla.imm _ _ _ hu))
      imap := fun q es c hu => all_imap_ok h2 q es c (hle.imap _ _ (hla.imap _ _ hu))
      live := fun b l hb => by
        obtain ⟨p, k1, k2, k3⟩ := hs.live b l hb
        have hlt := k3.lt
        exact ⟨p, k1, k2, k3.frame hleF.r (hbel.block _ hlt) (fun o => rfl) rfl⟩
      apart := hs.apart
      res := fun r hr => by
        obtain ⟨k1, k2⟩ := hs.res r hr
        exact ⟨k1, by rw [hbel.block _ (Array.getElem?_eq_some_iff.1 k2).1]; exact k2⟩
      fin := hs.fin }
theorem CallA.reader {C : Cfg} {f : Nat} {args : List AV} {σ : St} {R : Res → St → Prop} {x : AV} (d : Nat) (hglob : ∀ i, closed (C.glob i) = true)
    (hargs : closedL (args.map (resolve d σ)) = true) (hx : flat x = true) (h : Pure C f (args.map (resolve d σ)) x) (hR : R (.ret x) σ) : CallA C f args σ R :=
  CallA.reader' d hglob (fun _ _ h => h) hargs hx h hR
/-- Some of the cells are forgotten. -/
inductive Wk : List AV → List AV → Prop
  | nil : Wk [] []
  | keep (x : AV) {l l' : List AV} : Wk l l' → Wk (x :: l) (x :: l')
  | drop (x : AV) {l l' : List AV} : Wk l l' → Wk (.any :: l) (x :: l')
theorem Wk.rep {g : Gh} {l l' : List AV} (h : Wk l l') : ∀ {vs : List Value}, RepL g l' vs → RepL g l vs := by
  induction h with
  | nil => exact fun h => h
  | keep x _ ih =>
    intro vs h
    simp only [RepL] at h ⊢
    obtain ⟨u, us, h1, h2, h3⟩ := h
    exact ⟨u, us, h1, h2, ih h3⟩
  | drop x _ ih =>
    intro vs h
    simp only [RepL] at h ⊢
    obtain ⟨u, us, h1, h2, h3⟩ := h
    exact ⟨u, us, h1, by simp only [Rep], ih h3⟩
theorem Wk.eptr {g : Gh} {l l' r : List AV} {vs : List Value} (h : Wk l l') (hr : RepL g (.eptr l' :: r) vs) : RepL g (.eptr l :: r) vs := by
  simp only [RepL, Rep] at hr ⊢
  obtain ⟨u, us, h1, ⟨blk, off, ws, h2, h3, h4⟩, h5⟩ := hr
  exact ⟨u, us, h1, ⟨blk, off, ws, h2, h3, h.rep h4⟩, h5⟩
theorem Wk.any : ∀ (l : List AV), Wk (l.map fun _ => .any) l
  | [] => .nil
  | x :: l => .drop x (Wk.any l)
end Go.Rip
