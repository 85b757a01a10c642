/- Lemmas for the proof: no conditions. -/
import Derived.Test.YtnfpmiiopiinbaaGreatDoorRipZz
import Derived.Test.YtnfpmiiopiinbaaGreatDoorRipD
import Derived.Lib.Atoi
set_option linter.unusedVariables false
set_option linter.unusedSimpArgs false
set_option linter.loopingSimpArgs false
namespace Go.Rip
abbrev bh := List UInt8
structure Tk where
 k : Nat
 s : bh
 at_ : Nat
 deriving DecidableEq
structure Nd where
 kind : Int
 text : bh
 n : Int
 m : Int
 at_ : Int
 size : Int
 deriving DecidableEq
def eo (c : UInt8) : Bool := decide (48 <= c.toNat /\ c.toNat <= 57)
def jn (c : UInt8) : Bool := decide (97 <= c.toNat /\ c.toNat <= 122)
def xd (c : UInt8) : Bool := decide (65 <= c.toNat /\ c.toNat <= 90)
def cZ (c : UInt8) : Bool := eo c || jn c || xd c
def ow (c : UInt8) : Bool := decide (c.toNat = 10 \/ 32 <= c.toNat /\ c.toNat <= 126)
def AX (s : bh) : Int := s.foldl (fun n c => min (10 * n + ((c.toNat : Int) - 48)) 1000001) 0
def ub (s : bh) : Int := s.foldl (fun n c => 10 * n + ((c.toNat : Int) - 48)) 0
def ja (s : bh) : Int := if s.all eo = false then 4 else if 1 < s.length /\ s.head? = some 48 then 4 else if 1000000 < AX s then 3 else 0
def kG : List bh := [Ap, EW, NH, NJ, pg, RE, uZ, Bi, lf, nN, gC, EX, CG, lg, yV, nO, ry, RF, nj, qC, xB, CH, ph, Xb, EZ, CI, jF, tQ, gb, pj]
def fP : List bh := [da, ji, xy, xx, xr, xv, xq, pA, pB, qp, xz, Ao, xu, sj, xw, Am]
def fQ (s : bh) : Int × Nat × bh :=
 let w := s.takeWhile cZ
 match w with
 | [] => match fP.find? fun x => x.isPrefixOf s with
   | some x => (0, 4, x)
   | none => (4, 0, [])
 | c :: _ => if eo c then (ja w, 2, w) else if jn c = false then (4, 0, []) else if w ∈ kG then (0, 3, w) else if 12 < w.length then (4, 0, []) else (0, 1, w)
inductive CM where
 | ok (l : List Tk)
 | bad (p : Nat) (e : Int)
def lz : Nat -> bh -> Nat -> List Tk -> CM
 | 0, _, _, l => .ok l
 | f + 1, s, p, l => match s.drop p with
   | [] => .ok l
   | c :: r => if c.toNat = 32 \/ c.toNat = 10 then lz f s (p + 1) l
     else if c.toNat = 126 then lz f s (p + ((c :: r).takeWhile fun c => c.toNat ≠ 10).length) l
     else match fQ (c :: r) with
      | (e, k, t) => if e ≠ 0 then .bad p e else if l.length = 900 then .bad p 5 else lz f s (p + t.length) (l ++ [⟨k, t, p⟩])
def sr (s : bh) : Nat × Int := if 2500 < s.length then (0, 5) else match s.findIdx? (fun c => !ow c) with | some i => (i, 2) | none => (0, 0)
def oz (s : bh) : CM := match sr s with
 | (p, e) => if e ≠ 0 then .bad p e else lz s.length s 0 []
inductive PR (α : Type) where
 | ok (a : α) (i : Nat)
 | bad (i : Nat)
 | out
def PR.bind {α β : Type} (x : PR α) (f : α -> Nat -> PR β) : PR β := match x with
 | .ok a i => f a i
 | .bad i => .bad i
 | .out => .out
def node (kind : Int) (text : bh) (n m at_ : Int) (kids : List Nd) : List Nd := ⟨kind, text, n, m, at_, (kids.length : Int) + 1⟩ :: kids
section
variable (L : List Tk) (E : Nat)
def eX (i : Nat) : Int := match L[i]? with | some t => t.at_ | none => E
def cP (i : Nat) (w : bh) : Bool := match L[i]? with | some t => (t.k == 3 || t.k == 4) && t.s == w | none => false
def sD (i : Nat) (k : Nat) : Bool := match L[i]? with | some t => t.k == k | none => false
def DV (i : Nat) : Bool := cP L i nO || cP L i uZ || cP L i nN
def cS (w : bh) (i : Nat) : PR Unit := if cP L i w = true then .ok () (i + 1) else .bad i
def jo (i : Nat) : PR bh := match L[i]? with | some t => if t.k = 1 then .ok t.s (i + 1) else .bad i | none => .bad i
def kJ (i : Nat) : PR Int := match L[i]? with | some t => if t.k = 2 then .ok (ub t.s) (i + 1) else .bad i | none => .bad i
def qj (one : Nat -> PR (List Nd)) : Nat -> List Nd -> Nat -> PR (List Nd)
 | 0, _, _ => .out
 | f + 1, acc, i => if cP L i xu = true then (one (i + 1)).bind fun b j => qj one f (acc ++ b) j else .ok acc i
def xf (one : Nat -> PR (List Nd)) (f : Nat) (i : Nat) : PR (List Nd) := (one i).bind fun a j => qj L one f a j
def y7 (i : Nat) : PR (List Nd) := (jo L i).bind fun x j => .ok (node 37 x 0 0 (eX L E i) []) j
def Eg (lev : Nat) (i : Nat) : Option Int :=
 if lev = 2 then if cP L i EZ = true then some 17 else none
 else if lev = 3 then if cP L i Ap = true then some 18 else none
 else if lev = 5 then if cP L i xy = true then some 20 else if cP L i xx = true then some 21 else none
 else if lev = 6 then if cP L i xr = true then some 22 else if cP L i xv = true then some 23 else none
 else if lev = 7 then if cP L i xq = true then some 24 else none
 else if lev = 8 then if cP L i EW = true then some 25 else none
 else none
mutual
def uV : Nat -> Nat -> PR (List Nd)
 | 0, _ => .out
 | f + 1, i => (cE f i).bind fun a j => yP f (eX L E j) a 1 j
def yP : Nat -> Int -> List Nd -> Nat -> Nat -> PR (List Nd)
 | 0, _, _, _, _ => .out
 | f + 1, at_, acc, many, i => if cP L i sj = true /\ i + 1 < L.length /\ DV L (i + 1) = false then (cE f (i + 1)).bind fun b j => yP f at_ (acc ++ b) (many + 1) j
   else .ok (if many = 1 then acc else node 9 [] 0 0 at_ acc) i
def cE : Nat -> Nat -> PR (List Nd)
 | 0, _ => .out
 | f + 1, i =>
   if cP L i yV = true then (cE f (i + 1)).bind fun c j => (cS L tQ j).bind fun _ j => (cE f j).bind fun a j => (cS L lf j).bind fun _ j => (cE f j).bind fun b j => .ok (node 10 [] 0 0 (eX L E i) (c ++ a ++ b)) j
   else if cP L i pj = true then (cE f (i + 1)).bind fun a j => (cS L Bi j).bind fun _ j => (cE f j).bind fun b j => .ok (node 11 [] 0 0 (eX L E i) (a ++ b)) j
   else if cP L i xB = true then (jo L (i + 1)).bind fun x j => (cS L xw j).bind fun _ j => (kJ L j).bind fun n j => (cS L da j).bind fun _ j => (kJ L j).bind fun m j => (cS L ry j).bind fun _ j => (cE f j).bind fun a j => .ok (node 12 x n m (eX L E i) a) j
   else if cP L i qC = true then (jo L (i + 1)).bind fun x j => (cS L ry j).bind fun _ j => (cE f j).bind fun a j => (cS L lf j).bind fun _ j => (cE f j).bind fun b j => .ok (node 13 x 0 0 (eX L E i) (a ++ b)) j
   else if cP L i pg = true then (cE f (i + 1)).bind fun a j => (cS L lf j).bind fun _ j => (cE f j).bind fun b j => .ok (node 15 [] 0 0 (eX L E i) (a ++ b)) j
   else if cP L i ph = true then (jo L (i + 1)).bind fun x j => (cS L da j).bind fun _ j => (kJ L j).bind fun n j => (cS L ry j).bind fun _ j => (cE f j).bind fun a j => .ok (node 14 x n 0 (eX L E i) a) j
   else if sD L i 1 = true /\ cP L (i + 1) da = true then (jo L i).bind fun x j => (cS L da j).bind fun _ j => (cE f j).bind fun a j => .ok (node 16 x 0 0 (eX L E i) a) j
   else kK f 2 i
def kK : Nat -> Nat -> Nat -> PR (List Nd)
 | 0, _, _ => .out
 | f + 1, lev, i =>
   if lev = 9 then tW f i
   else if lev = 4 then if cP L i CH = true then (kK f 4 (i + 1)).bind fun a j => .ok (node 19 [] 0 0 (eX L E i) a) j else kK f 5 i
   else (kK f (lev + 1) i).bind fun a j => uD f lev a j
def uD : Nat -> Nat -> List Nd -> Nat -> PR (List Nd)
 | 0, _, _, _ => .out
 | f + 1, lev, left, i => match Eg L lev i with
   | none => .ok left i
   | some kind => if lev = 8 then (kJ L (i + 1)).bind fun n j => uD f lev (node kind [] n 0 (eX L E i) left) j
     else (kK f (lev + 1) (i + 1)).bind fun b j => if lev = 5 then .ok (node kind [] 0 0 (eX L E i) (left ++ b)) j else uD f lev (node kind [] 0 0 (eX L E i) (left ++ b)) j
def tW : Nat -> Nat -> PR (List Nd)
 | 0, _ => .out
 | f + 1, i =>
   if cP L i gb = true then .ok (node 27 [] 0 0 (eX L E i) []) (i + 1)
   else if cP L i gC = true then .ok (node 28 [] 0 0 (eX L E i) []) (i + 1)
   else if cP L i jF = true then .ok (node 29 [] 0 0 (eX L E i) []) (i + 1)
   else if cP L i lg = true then .ok (node 30 [] 0 0 (eX L E i) []) (i + 1)
   else if cP L i nj = true then (jo L (i + 1)).bind fun x j => .ok (node 31 x 0 0 (eX L E i) []) j
   else if cP L i pA = true then (jo L (i + 1)).bind fun x j => .ok (node 32 x 0 0 (eX L E i) []) j
   else if cP L i pB = true then (uV f (i + 1)).bind fun a j => (cS L qp j).bind fun _ j => .ok a j
   else if sD L i 2 = true then (kJ L i).bind fun n j => .ok (node 26 [] n 0 (eX L E i) []) j
   else (jo L i).bind fun x j => if cP L j pB = true then (oY f (j + 1)).bind fun a j => (qd f a j).bind fun a j => (cS L qp j).bind fun _ j => .ok (node 34 x 0 0 (eX L E i) a) j
    else .ok (node 33 x 0 0 (eX L E i) []) j
def qd : Nat -> List Nd -> Nat -> PR (List Nd)
 | 0, _, _ => .out
 | f + 1, acc, i => if cP L i xu = true then (oY f (i + 1)).bind fun b j => qd f (acc ++ b) j else .ok acc i
def oY : Nat -> Nat -> PR (List Nd)
 | 0, _ => .out
 | f + 1, i =>
   if cP L i EX = true then (cS L pB (i + 1)).bind fun _ j => (xf L (y7 L E) (L.length + 1) j).bind fun a j => (cS L qp j).bind fun _ j => (cE f j).bind fun b j => .ok (node 35 [] 0 0 (eX L E i) (a ++ b)) j
   else if cP L i xz = true then (cS L CG (i + 1)).bind fun _ j => (cE f j).bind fun a j => (cS L sj j).bind fun _ j => (cS L CI j).bind fun _ j => (y7 L E j).bind fun b j => (cS L Am j).bind fun _ j => (cE f j).bind fun c j => (cS L Ao j).bind fun _ j => .ok (node 36 [] 0 0 (eX L E i) (a ++ b ++ c)) j
   else uV f i
end
def fuel : Nat := 40 * (L.length + 2)
end
end Go.Rip
namespace Go.Rip
def Gd {α : Type} (n lo lb : Nat) : PR α -> Prop
 | .ok _ j => lo <= j /\ j <= n
 | .bad j => lb <= j /\ j <= n
 | .out => False
section
variable {α β : Type} {n lo BZ lb i : Nat} {L : List Tk} {E : Nat}
theorem Gd.bind {x : PR α} {f : α -> Nat -> PR β} (h : Gd n lo lb x) (k : ∀ a j, lo <= j -> j <= n -> Gd n BZ lb (f a j)) : Gd n BZ lb (x.bind f) := by
 cases x with
 | ok a j => exact k a j h.1 h.2
 | bad j => exact h
 | out => exact h.elim
theorem Gd.ite {c : Prop} [Decidable c] {x y : PR α} (h : c -> Gd n lo lb x) (k : ¬ c -> Gd n lo lb y) : Gd n lo lb (if c then x else y) := by
 split
 · exact h ‹_›
 · exact k ‹_›
theorem Gd.low {x : PR α} (h : Gd n lo lb x) (k : BZ <= lo) : Gd n BZ lb x := by
 cases x with
 | ok a j => exact ⟨Nat.le_trans k h.1, h.2⟩
 | bad j => exact h
 | out => exact h
theorem Gd.OQ {lb' : Nat} {x : PR α} (h : Gd n lo lb x) (k : lb' <= lb) : Gd n lo lb' x := by
 cases x with
 | ok a j => exact h
 | bad j => exact ⟨Nat.le_trans k h.1, h.2⟩
 | out => exact h
theorem Gd.at' {lb' : Nat} {x : PR α} (h : Gd n lo lb x) (k : BZ <= lo) (k' : lb' <= lb) : Gd n BZ lb' x := (h.low k).OQ k'
theorem dv {w : bh} (h : cP L i w = true) : i < L.length := by
 unfold cP at h
 split at h
 · rename_i t ht; exact (dF.1 ht).1
 · cases h
theorem R2 {k : Nat} (h : sD L i k = true) : i < L.length := by
 unfold sD at h
 split at h
 · rename_i t ht; exact (dF.1 ht).1
 · cases h
theorem et {w : bh} (h : i <= L.length) : Gd L.length (i + 1) i (cS L w i) := by
 unfold cS
 exact .ite (fun c => ⟨cX _, dv c⟩) fun _ => ⟨cX _, h⟩
theorem lV (h : i <= L.length) : Gd L.length (i + 1) i (jo L i) := by
 unfold jo
 split
 · rename_i t ht
   have := (dF.1 ht).1
   exact .ite (fun c => ⟨cX _, this⟩) fun _ => ⟨cX _, h⟩
 · exact ⟨cX _, h⟩
theorem q9 (h : i <= L.length) : Gd L.length (i + 1) i (kJ L i) := by
 unfold kJ
 split
 · rename_i t ht
   have := (dF.1 ht).1
   exact .ite (fun c => ⟨cX _, this⟩) fun _ => ⟨cX _, h⟩
 · exact ⟨cX _, h⟩
theorem D8 {one : Nat -> PR (List Nd)} (h1 : ∀ i, i <= L.length -> Gd L.length (i + 1) i (one i)) : ∀ (f : Nat) (acc : List Nd) (i : Nat), i <= L.length -> L.length - i < f -> Gd L.length i i (qj L one f acc i)
 | 0, acc, i, hi, hf => by omega
 | f + 1, acc, i, hi, hf => by
   unfold qj
   refine .ite (fun c => ?_) fun _ => ⟨cX _, hi⟩
   have := dv c
   refine ((h1 (i + 1) this).OQ (lb' := i) (by omega)).bind fun b j h2 h3 => ?_
   exact (D8 h1 f _ j h3 (by omega)).at' (by omega) (by omega)
theorem OO {one : Nat -> PR (List Nd)} (h1 : ∀ i, i <= L.length -> Gd L.length (i + 1) i (one i)) {f : Nat} (hi : i <= L.length) (hf : L.length - i <= f) (h0 : 0 < f) : Gd L.length (i + 1) i (xf L one f i) := by
 unfold xf
 refine (h1 i hi).bind fun a j h2 h3 => ?_
 exact (D8 h1 f _ j h3 (by omega)).at' (by omega) (by omega)
theorem tY (h : i <= L.length) : Gd L.length (i + 1) i (y7 L E i) := by
 unfold y7
 exact (lV h).bind fun a j h2 h3 => ⟨h2, h3⟩
theorem Gd.step {Z5 Z0 : Nat} {x : PR α} {f : α -> Nat -> PR β} (h : Gd n Z5 Z0 x) (hb : lb <= Z0) (k : ∀ a j, Z5 <= j -> j <= n -> Gd n BZ lb (f a j)) : Gd n BZ lb (x.bind f) := (h.OQ hb).bind k
theorem GJ {lev : Nat} {k : Int} (h : Eg L lev i = some k) : i < L.length := by
 unfold Eg at h
 repeat' (split at h)
 all_goals first
  | (cases h; done)
  | exact dv ‹_›
theorem AI : ∀ f : Nat,
 (∀ i, i <= L.length -> 40 * (L.length - i) + 11 <= f -> Gd L.length (i + 1) i (uV L E f i)) /\
 (∀ i at_ acc many, i <= L.length -> 40 * (L.length - i) + 1 <= f -> Gd L.length i i (yP L E f at_ acc many i)) /\
 (∀ i, i <= L.length -> 40 * (L.length - i) + 10 <= f -> Gd L.length (i + 1) i (cE L E f i)) /\
 (∀ i lev, i <= L.length -> lev <= 9 -> 40 * (L.length - i) + (11 - lev) <= f -> Gd L.length (i + 1) i (kK L E f lev i)) /\
 (∀ i lev left, i <= L.length -> lev <= 8 -> 40 * (L.length - i) + 1 <= f -> Gd L.length i i (uD L E f lev left i)) /\
 (∀ i, i <= L.length -> 40 * (L.length - i) + 1 <= f -> Gd L.length (i + 1) i (tW L E f i)) /\
 (∀ i acc, i <= L.length -> 40 * (L.length - i) + 1 <= f -> Gd L.length i i (qd L E f acc i)) /\
 (∀ i, i <= L.length -> 40 * (L.length - i) + 12 <= f -> Gd L.length (i + 1) i (oY L E f i)) := by
 intro f
 induction f with
 | zero => refine ⟨?_, ?_, ?_, ?_, ?_, ?_, ?_, ?_⟩ <;> intros <;> omega
 | succ f ih =>
   obtain ⟨iT, iS, iF, iO, iP, iA, iG, iR⟩ := ih
   refine ⟨?_, ?_, ?_, ?_, ?_, ?_, ?_, ?_⟩
   · intro i hi hf
     rw [uV]
     refine (iF i hi (by omega)).bind fun a j h1 h2 => ?_
     exact (iS j _ _ _ h2 (by omega)).at' (by omega) (by omega)
   · intro i at_ acc many hi hf
     rw [yP]
     refine .ite (fun c => ?_) fun _ => ⟨cX _, hi⟩
     have h0 := dv c.1
     refine (iF (i + 1) (by omega) (by omega)).step (by omega) fun a j h1 h2 => ?_
     exact (iS j _ _ _ h2 (by omega)).at' (by omega) (by omega)
   · intro i hi hf
     rw [cE]
     refine .ite (fun c => ?_) fun _ => .ite (fun c => ?_) fun _ => .ite (fun c => ?_) fun _ => .ite (fun c => ?_) fun _ => .ite (fun c => ?_) fun _ => .ite (fun c => ?_) fun _ => .ite (fun c => ?_) fun _ => ?_
     · have h0 := dv c
       refine (iF (i + 1) (by omega) (by omega)).step (by omega) fun a j h1 h2 => (et h2).step (by omega) fun a j h3 h4 => (iF j (by omega) (by omega)).step (by omega) fun a j h5 h6 => (et h6).step (by omega) fun a j h7 h8 => (iF j (by omega) (by omega)).step (by omega) fun a j h9 nW => ⟨by omega, nW⟩
     · have h0 := dv c
       exact (iF (i + 1) (by omega) (by omega)).step (by omega) fun a j h1 h2 => (et h2).step (by omega) fun a j h3 h4 => (iF j (by omega) (by omega)).step (by omega) fun a j h5 h6 => ⟨by omega, h6⟩
     · have h0 := dv c
       exact (lV h0).step (by omega) fun a j h1 h2 => (et h2).step (by omega) fun a j h3 h4 => (q9 h4).step (by omega) fun a j h5 h6 => (et h6).step (by omega) fun a j h7 h8 => (q9 h8).step (by omega) fun a j h9 nW => (et nW).step (by omega) fun a j vd vV => (iF j (by omega) (by omega)).step (by omega) fun a j h13 UL => ⟨by omega, UL⟩
     · have h0 := dv c
       exact (lV h0).step (by omega) fun a j h1 h2 => (et h2).step (by omega) fun a j h3 h4 => (iF j (by omega) (by omega)).step (by omega) fun a j h5 h6 => (et h6).step (by omega) fun a j h7 h8 => (iF j (by omega) (by omega)).step (by omega) fun a j h9 nW => ⟨by omega, nW⟩
     · have h0 := dv c
       exact (iF (i + 1) (by omega) (by omega)).step (by omega) fun a j h1 h2 => (et h2).step (by omega) fun a j h3 h4 => (iF j (by omega) (by omega)).step (by omega) fun a j h5 h6 => ⟨by omega, h6⟩
     · have h0 := dv c
       exact (lV h0).step (by omega) fun a j h1 h2 => (et h2).step (by omega) fun a j h3 h4 => (q9 h4).step (by omega) fun a j h5 h6 => (et h6).step (by omega) fun a j h7 h8 => (iF j (by omega) (by omega)).step (by omega) fun a j h9 nW => ⟨by omega, nW⟩
     · have h0 := R2 c.1
       exact (lV hi).step (by omega) fun a j h1 h2 => (et h2).step (by omega) fun a j h3 h4 => (iF j (by omega) (by omega)).step (by omega) fun a j h5 h6 => ⟨by omega, h6⟩
     · exact iO i 2 hi (by omega) (by omega)
   · intro i lev hi hl hf
     rw [kK]
     refine .ite (fun c => ?_) fun c9 => .ite (fun c => .ite (fun d => ?_) fun d => ?_) fun c4 => ?_
     · exact iA i hi (by omega)
     · have h0 := dv d
       exact (iO (i + 1) 4 (by omega) (by omega) (by omega)).step (by omega) fun a j h1 h2 => ⟨by omega, h2⟩
     · exact iO i 5 hi (by omega) (by omega)
     · refine (iO i (lev + 1) hi (by omega) (by omega)).bind fun a j h1 h2 => ?_
       exact (iP j lev a h2 (by omega) (by omega)).at' (by omega) (by omega)
   · intro i lev left hi hl hf
     rw [uD]
     split
     · exact ⟨cX _, hi⟩
     · rename_i k hk
       have h0 := GJ hk
       refine .ite (fun c => ?_) fun c => ?_
       · exact (q9 h0).step (by omega) fun a j h1 h2 => (iP j lev _ h2 hl (by omega)).at' (by omega) (by omega)
       · refine (iO (i + 1) (lev + 1) h0 (by omega) (by omega)).step (by omega) fun a j h1 h2 => .ite (fun _ => ⟨by omega, h2⟩) fun _ => ?_
         exact (iP j lev _ h2 hl (by omega)).at' (by omega) (by omega)
   · intro i hi hf
     rw [tW]
     refine .ite (fun c => ⟨cX _, dv c⟩) fun _ => .ite (fun c => ⟨cX _, dv c⟩) fun _ => .ite (fun c => ⟨cX _, dv c⟩) fun _ => .ite (fun c => ⟨cX _, dv c⟩) fun _ => .ite (fun c => ?_) fun _ => .ite (fun c => ?_) fun _ => .ite (fun c => ?_) fun _ => .ite (fun c => ?_) fun _ => ?_
     · have h0 := dv c
       exact (lV h0).step (by omega) fun a j h1 h2 => ⟨by omega, h2⟩
     · have h0 := dv c
       exact (lV h0).step (by omega) fun a j h1 h2 => ⟨by omega, h2⟩
     · have h0 := dv c
       exact (iT (i + 1) (by omega) (by omega)).step (by omega) fun a j h1 h2 => (et h2).step (by omega) fun a j h3 h4 => ⟨by omega, h4⟩
     · exact (q9 hi).step (by omega) fun a j h1 h2 => ⟨by omega, h2⟩
     · refine (lV hi).step (by omega) fun a j h1 h2 => .ite (fun c => ?_) fun _ => ⟨by omega, h2⟩
       have h0 := dv c
       exact (iR (j + 1) (by omega) (by omega)).step (by omega) fun a j h3 h4 => (iG j _ h4 (by omega)).step (by omega) fun a j h5 h6 => (et h6).step (by omega) fun a j h7 h8 => ⟨by omega, h8⟩
   · intro i acc hi hf
     rw [qd]
     refine .ite (fun c => ?_) fun _ => ⟨cX _, hi⟩
     have h0 := dv c
     exact (iR (i + 1) (by omega) (by omega)).step (by omega) fun a j h1 h2 => (iG j _ h2 (by omega)).at' (by omega) (by omega)
   · intro i hi hf
     rw [oY]
     refine .ite (fun c => ?_) fun _ => .ite (fun c => ?_) fun _ => ?_
     · have h0 := dv c
       exact (et h0).step (by omega) fun a j h1 h2 => (OO (fun i hi => tY hi) h2 (by omega) (by omega)).step (by omega) fun a j h3 h4 => (et h4).step (by omega) fun a j h5 h6 => (iF j (by omega) (by omega)).step (by omega) fun a j h7 h8 => ⟨by omega, h8⟩
     · have h0 := dv c
       exact (et h0).step (by omega) fun a j h1 h2 => (iF j (by omega) (by omega)).step (by omega) fun a j h3 h4 => (et h4).step (by omega) fun a j h5 h6 => (et h6).step (by omega) fun a j h7 h8 => (tY h8).step (by omega) fun a j h9 nW => (et nW).step (by omega) fun a j vd vV => (iF j (by omega) (by omega)).step (by omega) fun a j h13 UL => (et UL).step (by omega) fun a j h15 h16 => ⟨by omega, h16⟩
     · exact iT i hi (by omega)
end
end Go.Rip
namespace Go.Rip
def qF (t : Tk) : Prop := t.s ≠ [] /\ fQ t.s = (0, t.k, t.s)
theorem tH (p : UInt8 -> Bool) : ∀ l : bh, (l.takeWhile p).takeWhile p = l.takeWhile p
 | [] => rfl
 | c :: l => by
   simp only [nG]
   cases h : p c with
   | true => simp [h, tH p l]
   | false => rfl
theorem Eu : ∀ x ∈ fP, fQ x = (0, 4, x) /\ x ≠ [] := by decide
theorem Bd {s : bh} {k : Nat} {t : bh} (h : fQ s = (0, k, t)) : qF ⟨k, t, 0⟩ /\ t <+: s := by
 have hid := tH cZ s
 have uj := ri cZ (l := s)
 unfold fQ at h
 simp only at h
 split at h
 · rename_i hw
   split at h
   · rename_i x hx
     simp only [jM, true_and] at h
     obtain ⟨rfl, rfl⟩ := h
     have hm := List.mem_of_find?_eq_some hx
     have hp := List.find?_some hx
     exact ⟨⟨(Eu _ hm).2, (Eu _ hm).1⟩, List.isPrefixOf_iff_prefix.1 hp⟩
   · simp at h
 · rename_i c r hw
   have key : ∀ {e : Int} {k : Nat}, fQ (s.takeWhile cZ) = (e, k, s.takeWhile cZ) -> e = 0 -> qF ⟨k, s.takeWhile cZ, 0⟩ /\ s.takeWhile cZ <+: s := fun h1 h2 => ⟨⟨by simp [hw], by rw [h1, h2]⟩, uj⟩
   split at h
   · rename_i hd
     simp only [jM] at h
     obtain ⟨h1, rfl, rfl⟩ := h
     refine key ?_ h1
     unfold fQ
     simp only [hid]
     rw [hw]
     simp only [if_pos hd]
   · rename_i hd
     split at h
     · simp at h
     · rename_i hs
       split at h
       · rename_i hk
         simp only [jM, true_and] at h
         obtain ⟨rfl, rfl⟩ := h
         refine key ?_ rfl
         unfold fQ
         simp only [hid]
         rw [hw] at hk ⊢
         simp only [if_neg hd, if_neg hs, if_pos hk]
       · rename_i hk
         split at h
         · simp at h
         · rename_i hl
           simp only [jM, true_and] at h
           obtain ⟨rfl, rfl⟩ := h
           refine key ?_ rfl
           unfold fQ
           simp only [hid]
           rw [hw] at hk hl ⊢
           simp only [if_neg hd, if_neg hs, if_neg hk, if_neg hl]
theorem xe : ∀ (f : Nat) (s : bh) (p : Nat) (l : List Tk) {L : List Tk}, lz f s p l = .ok L -> (∀ t ∈ l, qF t) -> l.length <= 900 -> (∀ t ∈ L, qF t) /\ L.length <= 900
 | 0, s, p, l, L, h, hl, hn => by simp only [lz, CM.ok.injEq] at h; subst h; exact ⟨hl, hn⟩
 | f + 1, s, p, l, L, h, hl, hn => by
   simp only [lz] at h
   split at h
   · simp only [CM.ok.injEq] at h; subst h; exact ⟨hl, hn⟩
   · split at h
     · exact xe f s _ l h hl hn
     · split at h
       · exact xe f s _ l h hl hn
       · split at h
         · cases h
         · rename_i he
           split at h
           · cases h
           · rename_i hc
             refine xe f s _ _ h (fun t ht => ?_) (by simp; omega)
             simp only [eZ, mP] at ht
             rcases ht with ht | rfl
             · exact hl t ht
             · have jP : (fQ _).1 = 0 := Decidable.not_not.1 he
               exact (Bd (Prod.ext jP rfl)).1
theorem R8 {s : bh} {L : List Tk} (h : oz s = .ok L) : (∀ t ∈ L, qF t) /\ L.length <= 900 := by
 unfold oz at h
 split at h
 split at h
 · cases h
 · exact xe _ _ _ _ h (by simp) (by simp)
end Go.Rip
namespace Go.Rip
def gu (a : Int) (s : bh) : Int := s.foldl (fun n c => min (10 * n + ((c.toNat : Int) - 48)) 1000001) a
def yp (a : Int) (s : bh) : Int := s.foldl (fun n c => 10 * n + ((c.toNat : Int) - 48)) a
theorem kn {c : UInt8} : eo c = true ↔ 48 <= c.toNat /\ c.toNat <= 57 := by simp [eo]
theorem AW : ∀ (s : bh) (a : Int), a <= 1000001 -> gu a s <= 1000001
 | [], a, h => h
 | c :: s, a, h => AW s (min (10 * a + ((c.toNat : Int) - 48)) 1000001) (by omega)
theorem qA : ∀ (s : bh) (a : Int), s.all eo = true -> 0 <= a -> min a 1000001 <= gu a s
 | [], a, _, h => by simp [gu]; omega
 | c :: s, a, hd, h => by
   simp only [List.all_cons, bR] at hd
   have h1 := kn.1 hd.1
   have := qA s (min (10 * a + ((c.toNat : Int) - 48)) 1000001) hd.2 (by omega)
   have e : gu a (c :: s) = gu (min (10 * a + ((c.toNat : Int) - 48)) 1000001) s := rfl
   omega
theorem B5 : ∀ (s : bh) (a : Int), s.all eo = true -> 0 <= a -> gu a s <= 1000000 -> gu a s = yp a s
 | [], a, _, _, _ => rfl
 | c :: s, a, hd, h, hl => by
   simp only [List.all_cons, bR] at hd
   have h1 := kn.1 hd.1
   have e : gu a (c :: s) = gu (min (10 * a + ((c.toNat : Int) - 48)) 1000001) s := rfl
   have e2 : yp a (c :: s) = yp (10 * a + ((c.toNat : Int) - 48)) s := rfl
   have hg := qA s (min (10 * a + ((c.toNat : Int) - 48)) 1000001) hd.2 (by omega)
   have hm : min (10 * a + ((c.toNat : Int) - 48)) 1000001 = 10 * a + ((c.toNat : Int) - 48) := by omega
   rw [hm] at e
   rw [e, e2]
   exact B5 s _ hd.2 (by omega) (by omega)
theorem Ed : ∀ (s : bh) (a : Int), s.all eo = true -> 1 <= a -> gu a s <= 1000000 -> 10 ^ s.length * a <= gu a s
 | [], a, _, _, _ => by simp [gu]
 | c :: s, a, hd, h, hl => by
   simp only [List.all_cons, bR] at hd
   have h1 := kn.1 hd.1
   have e : gu a (c :: s) = gu (min (10 * a + ((c.toNat : Int) - 48)) 1000001) s := rfl
   have hg := qA s (min (10 * a + ((c.toNat : Int) - 48)) 1000001) hd.2 (by omega)
   have hm : min (10 * a + ((c.toNat : Int) - 48)) 1000001 = 10 * a + ((c.toNat : Int) - 48) := by omega
   rw [hm] at e
   rw [e] at hl ⊢
   have := Ed s _ hd.2 (by omega) hl
   have hp : (0 : Int) < 10 ^ s.length := Int.pow_pos (by omega)
   have : 10 ^ s.length * (10 * a) <= 10 ^ s.length * (10 * a + ((c.toNat : Int) - 48)) := Int.mul_le_mul_of_nonneg_left (by omega) (by omega)
   rw [jL, Int.pow_succ, Int.mul_assoc]
   omega
theorem GF {s : bh} (h : ja s = 0) : s.all eo = true /\ ¬ (1 < s.length /\ s.head? = some 48) /\ AX s <= 1000000 := by
 unfold ja at h
 split at h
 · cases h
 · rename_i h1
   split at h
   · cases h
   · rename_i h2
     split at h
     · cases h
     · rename_i h3; exact ⟨by simpa using h1, h2, by omega⟩
theorem Kg {s : bh} (h0 : s ≠ []) (h : ja s = 0) : 1 <= s.length /\ s.length <= 7 /\ AX s = ub s /\ 0 <= ub s /\ ub s <= 1000000 := by
 obtain ⟨h1, h2, h3⟩ := GF h
 have hv : AX s = gu 0 s := rfl
 have hd : ub s = yp 0 s := rfl
 have e := B5 s 0 h1 (by omega) (by omega)
 have hg := qA s 0 h1 (by omega)
 refine ⟨?_, ?_, by omega, by omega, by omega⟩
 · cases s with
   | nil => exact absurd rfl h0
   | cons c s => simp
 · cases s with
   | nil => simp
   | cons c s =>
     simp only [List.all_cons, bR] at h1
     have hc := kn.1 h1.1
     rcases eM s.length 1 with hl | hl
     · simp; omega
     · have hc0 : c ≠ 48 := fun e => h2 ⟨by simp; omega, by simp [e]⟩
       have xL : c.toNat ≠ 48 := fun e => hc0 (by apply UInt8.toNat_inj.1; simpa using e)
       have e1 : gu 0 (c :: s) = gu ((c.toNat : Int) - 48) s := by
        show gu (min (10 * 0 + ((c.toNat : Int) - 48)) 1000001) s = _
        congr 1; omega
       have hlen := Ed s ((c.toNat : Int) - 48) h1.2 (by omega) (by omega)
       rcases eM s.length 7 with hl | hl
       · simp; omega
       · exfalso
         have h7 : (10 : Int) ^ 7 <= 10 ^ s.length := by
          have := Nat.pow_le_pow_right (n := 10) (by omega) hl
          exact_mod_cast this
         have : (10 : Int) ^ s.length * 1 <= 10 ^ s.length * ((c.toNat : Int) - 48) := Int.mul_le_mul_of_nonneg_left (by omega) (by omega)
         omega
theorem PJ {s : bh} (h : fQ s = (0, 2, s)) (h0 : s ≠ []) : ja s = 0 := by
 unfold fQ at h
 simp only at h
 split at h
 · split at h <;> simp at h
 · rename_i c r hw
   split at h
   · simp only [jM, true_and] at h
     rw [h.2] at h; exact h.1
   · split at h
     · simp at h
     · split at h
       · simp at h
       · split at h <;> simp at h
theorem Sg {t : Tk} (h : qF t) (hk : t.k = 2) : ja t.s = 0 := PJ (by rw [h.2, hk]) h.1
theorem xE : ∀ (s : bh) (a : Nat), s.all eo = true -> ∃ m, Lib.decFrom a s = some m /\ (m : Int) = yp a s
 | [], a, _ => ⟨a, rfl, rfl⟩
 | c :: s, a, h => by
   simp only [List.all_cons, bR] at h
   have hc := kn.1 h.1
   obtain ⟨m, h1, h2⟩ := xE s (a * 10 + (c.toNat - 48)) h.2
   refine ⟨m, ?_, ?_⟩
   · simp only [Lib.decFrom, Lib.digitVal, if_pos hc]; exact h1
   · rw [h2]
     show yp _ s = yp (10 * (a : Int) + ((c.toNat : Int) - 48)) s
     congr 1; omega
theorem NX {s : bh} (h0 : s ≠ []) (h : s.all eo = true) : Lib.atoi s = some (ub s) := by
 cases s with
 | nil => exact absurd rfl h0
 | cons c s =>
   have h' := h
   simp only [List.all_cons, bR] at h'
   have hc := kn.1 h'.1
   obtain ⟨m, h1, h2⟩ := xE (c :: s) 0 h
   have c45 : (c == 45) = false := by simp; rintro rfl; simp at hc
   have c43 : (c == 43) = false := by simp; rintro rfl; simp at hc
   simp only [Lib.atoi, c45, c43, bo, if_false, Lib.decNat, List.isEmpty_cons, h1, Option.map_some, gD]
   exact h2
end Go.Rip
namespace Go.Rip
theorem wM {s : bh} {k : Nat} {t : bh} (h : fQ s = (0, k, t)) : (k = 1 /\ t ∉ kG /\ t.length <= 12 /\ (∃ c r, t = c :: r /\ jn c = true) /\ t.all cZ = true) \/ (k = 2 /\ ∃ c r, t = c :: r /\ eo c = true) \/ (k = 3 /\ t ∈ kG) \/ (k = 4 /\ t ∈ fP) := by
 have bm : (s.takeWhile cZ).all cZ = true := by
  rw [ef]; intro x hx
  have : ∀ l : bh, x ∈ l.takeWhile cZ -> cZ x = true := fun l => by
   induction l with
   | nil => simp
   | cons c l ih =>
     simp only [nG]
     split
     · rename_i hc
       intro h
       rcases dS.1 h with rfl | h
       · exact hc
       · exact ih h
     · simp
  exact this s hx
 unfold fQ at h
 simp only at h
 split at h
 · split at h
   · rename_i x hx
     simp only [jM, true_and] at h
     obtain ⟨rfl, rfl⟩ := h
     exact .inr (.inr (.inr ⟨rfl, List.mem_of_find?_eq_some hx⟩))
   · simp at h
 · rename_i c r hw
   split at h
   · rename_i hd
     simp only [jM] at h
     obtain ⟨h1, rfl, rfl⟩ := h
     exact .inr (.inl ⟨rfl, c, r, hw, hd⟩)
   · split at h
     · simp at h
     · rename_i hs
       split at h
       · rename_i hk
         simp only [jM, true_and] at h
         obtain ⟨rfl, rfl⟩ := h
         exact .inr (.inr (.inl ⟨rfl, hk⟩))
       · rename_i hk
         split at h
         · simp at h
         · rename_i hl
           simp only [jM, true_and] at h
           obtain ⟨rfl, rfl⟩ := h
           exact .inl ⟨rfl, hk, by omega, ⟨c, r, hw, by simpa using hs⟩, bm⟩
theorem qF.cases {t : Tk} (h : qF t) : (t.k = 1 /\ t.s ∉ kG) \/ t.k = 2 \/ (t.k = 3 /\ t.s ∈ kG) \/ (t.k = 4 /\ t.s ∈ fP) := by
 rcases wM h.2 with h | h | h | h
 · exact .inl ⟨h.1, h.2.1⟩
 · exact .inr (.inl h.1)
 · exact .inr (.inr (.inl h))
 · exact .inr (.inr (.inr h))
theorem HM : ∀ w ∈ kG, w ∉ fP := by decide
theorem JR {L : List Tk} {i : Nat} {w : bh} (h : cP L i w = true) : ∃ t, L[i]? = some t /\ (t.k = 3 \/ t.k = 4) /\ t.s = w := by
 unfold cP at h
 split at h
 · rename_i t ht
   simp only [bR, jt, beq_iff_eq] at h
   exact ⟨t, ht, h.1, h.2⟩
 · cases h
theorem R4 {L : List Tk} {i : Nat} {w : bh} {t : Tk} (ht : L[i]? = some t) (hk : t.k = 3 \/ t.k = 4) (hs : t.s = w) : cP L i w = true := by
 unfold cP; rw [ht]; simp [hs, hk]
theorem R3 {L : List Tk} (hL : ∀ t ∈ L, qF t) {i : Nat} {w : bh} (hw : w ∈ kG) (h : cP L i w = true) : ∃ t, L[i]? = some t /\ t.k = 3 /\ t.s = w := by
 obtain ⟨t, ht, hk, hs⟩ := JR h
 refine ⟨t, ht, ?_, hs⟩
 rcases hk with hk | hk
 · exact hk
 · rcases (hL t (fO ht)).cases with h | h | h | h
   · omega
   · omega
   · omega
   · rw [hs] at h; exact absurd h.2 (HM w hw)
def pb (o : Option Tk) : bh := match o with | some t => if t.k = 3 \/ t.k = 4 then t.s else [] | none => []
theorem BQ {L : List Tk} {i : Nat} {w : bh} (hw : w ≠ []) : cP L i w = decide (pb L[i]? = w) := by
 unfold cP pb
 split
 · rename_i t ht
   by_cases h : t.k = 3 \/ t.k = 4
   · by_cases hs : t.s = w <;> simp [ht, h, hs]
   · have h3 : ¬ t.k = 3 := fun e => h (.inl e)
     have h4 : ¬ t.k = 4 := fun e => h (.inr e)
     simp [ht, h3, h4, Ne.symm hw]
 · rename_i ht; simp [ht, Ne.symm hw]
end Go.Rip
