/- Lemmas for the proof: no conditions. -/
import Derived.Test.YtnfpmiiopiinbaaGreatDoorRipZz
import Derived.Test.YtnfpmiiopiinbaaGreatDoorRipD
import Derived.Lib.Atoi
set_option linter.unusedVariables false
set_option linter.unusedSimpArgs false
set_option linter.loopingSimpArgs false
namespace Go.Rip
abbrev aZ := List UInt8
structure Tk where
 k : Nat
 s : aZ
 at_ : Nat
 deriving DecidableEq
structure Nd where
 kind : Int
 text : aZ
 n : Int
 m : Int
 at_ : Int
 size : Int
 deriving DecidableEq
def eD (c : UInt8) : Bool := decide (48 <= c.toNat /\ c.toNat <= 57)
def kS (c : UInt8) : Bool := decide (97 <= c.toNat /\ c.toNat <= 122)
def BH (c : UInt8) : Bool := decide (65 <= c.toNat /\ c.toNat <= 90)
def dx (c : UInt8) : Bool := eD c || kS c || BH c
def mx (c : UInt8) : Bool := decide (c.toNat = 10 \/ 32 <= c.toNat /\ c.toNat <= 126)
def CX (s : aZ) : Int := s.foldl (fun n c => min (10 * n + ((c.toNat : Int) - 48)) 1000001) 0
def uj (s : aZ) : Int := s.foldl (fun n c => 10 * n + ((c.toNat : Int) - 48)) 0
def ky (s : aZ) : Int := if s.all eD = false then 4 else if 1 < s.length /\ s.head? = some 48 then 4 else if 1000000 < CX s then 3 else 0
def kr : List aZ := [ub, tq, yP, rN, ly, Ce, jS, AN, jI, ff, gG, Dc, Cf, kZ, yS, fA, pv, wN, mS, qZ, wP, Cg, mI, ZI, yT, Ch, jJ, tt, gq, pQ]
def gL : List aZ := [cx, gy, lJ, sv, sr, su, so, o8, fR, eF, wM, zn, nB, gE, ja, zm]
def gx (s : aZ) : Int × Nat × aZ :=
 let w := s.takeWhile dx
 match w with
 | [] => match gL.find? fun x => x.isPrefixOf s with
   | some x => (0, 4, x)
   | none => (4, 0, [])
 | c :: _ => if eD c then (ky w, 2, w) else if kS c = false then (4, 0, []) else if w ∈ kr then (0, 3, w) else if 12 < w.length then (4, 0, []) else (0, 1, w)
inductive EM where
 | ok (l : List Tk)
 | bad (p : Nat) (e : Int)
def je : Nat -> aZ -> Nat -> List Tk -> EM
 | 0, _, _, l => .ok l
 | f + 1, s, p, l => match s.drop p with
   | [] => .ok l
   | c :: r => if c.toNat = 32 \/ c.toNat = 10 then je f s (p + 1) l
     else if c.toNat = 126 then je f s (p + ((c :: r).takeWhile fun c => c.toNat ≠ 10).length) l
     else match gx (c :: r) with
      | (e, k, t) => if e ≠ 0 then .bad p e else if l.length = 900 then .bad p 5 else je f s (p + t.length) (l ++ [⟨k, t, p⟩])
def pb (s : aZ) : Nat × Int := if 2500 < s.length then (0, 5) else match s.findIdx? (fun c => !mx c) with | some i => (i, 2) | none => (0, 0)
def jf (s : aZ) : EM := match pb s with
 | (p, e) => if e ≠ 0 then .bad p e else je s.length s 0 []
inductive PR (α : Type) where
 | ok (a : α) (i : Nat)
 | bad (i : Nat)
 | out
def PR.bind {α β : Type} (x : PR α) (f : α -> Nat -> PR β) : PR β := match x with
 | .ok a i => f a i
 | .bad i => .bad i
 | .out => .out
def node (kind : Int) (text : aZ) (n m at_ : Int) (kids : List Nd) : List Nd := ⟨kind, text, n, m, at_, (kids.length : Int) + 1⟩ :: kids
section
variable (L : List Tk) (E : Nat)
def bM (i : Nat) : Int := match L[i]? with | some t => t.at_ | none => E
def bl (i : Nat) (w : aZ) : Bool := match L[i]? with | some t => (t.k == 3 || t.k == 4) && t.s == w | none => false
def eP (i : Nat) (k : Nat) : Bool := match L[i]? with | some t => t.k == k | none => false
def oF (i : Nat) : Bool := bl L i fA || bl L i jS || bl L i ff
def bm (w : aZ) (i : Nat) : PR Unit := if bl L i w = true then .ok () (i + 1) else .bad i
def dM (i : Nat) : PR aZ := match L[i]? with | some t => if t.k = 1 then .ok t.s (i + 1) else .bad i | none => .bad i
def fQ (i : Nat) : PR Int := match L[i]? with | some t => if t.k = 2 then .ok (uj t.s) (i + 1) else .bad i | none => .bad i
def js (one : Nat -> PR (List Nd)) : Nat -> List Nd -> Nat -> PR (List Nd)
 | 0, _, _ => .out
 | f + 1, acc, i => if bl L i nB = true then (one (i + 1)).bind fun b j => js one f (acc ++ b) j else .ok acc i
def jr (one : Nat -> PR (List Nd)) (f : Nat) (i : Nat) : PR (List Nd) := (one i).bind fun a j => js L one f a j
def fJ (i : Nat) : PR (List Nd) :=
 if bl L i Ce = true then .ok (node 6 [] 1 0 (bM L E i) []) (i + 1)
 else if bl L i yP = true then .ok (node 6 [] 2 0 (bM L E i) []) (i + 1)
 else if bl L i rN = true then (fQ L (i + 1)).bind fun n j => .ok (node 7 [] n 0 (bM L E i) []) j
 else (bm L wN i).bind fun _ j => (fQ L j).bind fun n j => .ok (node 6 [] n 0 (bM L E i) []) j
def lI (f : Nat) (i : Nat) : PR (List Nd) :=
 if bl L i fR = true then (jr L (fJ L E) f (i + 1)).bind fun a j => (bm L eF j).bind fun _ j => (bm L gy j).bind fun _ j => (fJ L E j).bind fun b j => .ok (node 8 [] 0 0 (bM L E i) (a ++ b)) j
 else fJ L E i
def gm (f : Nat) (i : Nat) : PR (List Nd) := (dM L i).bind fun x j => (bm L ja j).bind fun _ j => (lI L E f j).bind fun a j => .ok (node 5 x 0 0 (bM L E i) a) j
def jK (i : Nat) : PR (List Nd) := (dM L i).bind fun x j => .ok (node 37 x 0 0 (bM L E i) []) j
def jB (lev : Nat) (i : Nat) : Option Int :=
 if lev = 2 then if bl L i yT = true then some 17 else none
 else if lev = 3 then if bl L i ub = true then some 18 else none
 else if lev = 5 then if bl L i lJ = true then some 20 else if bl L i sv = true then some 21 else none
 else if lev = 6 then if bl L i sr = true then some 22 else if bl L i su = true then some 23 else none
 else if lev = 7 then if bl L i so = true then some 24 else none
 else if lev = 8 then if bl L i tq = true then some 25 else none
 else none
mutual
def fy : Nat -> Nat -> PR (List Nd)
 | 0, _ => .out
 | f + 1, i => (bR f i).bind fun a j => jm f (bM L E j) a 1 j
def jm : Nat -> Int -> List Nd -> Nat -> Nat -> PR (List Nd)
 | 0, _, _, _, _ => .out
 | f + 1, at_, acc, many, i => if bl L i gE = true /\ i + 1 < L.length /\ oF L (i + 1) = false then (bR f (i + 1)).bind fun b j => jm f at_ (acc ++ b) (many + 1) j
   else .ok (if many = 1 then acc else node 9 [] 0 0 at_ acc) i
def bR : Nat -> Nat -> PR (List Nd)
 | 0, _ => .out
 | f + 1, i =>
   if bl L i yS = true then (bR f (i + 1)).bind fun c j => (bm L tt j).bind fun _ j => (bR f j).bind fun a j => (bm L jI j).bind fun _ j => (bR f j).bind fun b j => .ok (node 10 [] 0 0 (bM L E i) (c ++ a ++ b)) j
   else if bl L i pQ = true then (bR f (i + 1)).bind fun a j => (bm L AN j).bind fun _ j => (bR f j).bind fun b j => .ok (node 11 [] 0 0 (bM L E i) (a ++ b)) j
   else if bl L i wP = true then (dM L (i + 1)).bind fun x j => (bm L ja j).bind fun _ j => (fQ L j).bind fun n j => (bm L cx j).bind fun _ j => (fQ L j).bind fun m j => (bm L pv j).bind fun _ j => (bR f j).bind fun a j => .ok (node 12 x n m (bM L E i) a) j
   else if bl L i qZ = true then (dM L (i + 1)).bind fun x j => (bm L pv j).bind fun _ j => (bR f j).bind fun a j => (bm L jI j).bind fun _ j => (bR f j).bind fun b j => .ok (node 13 x 0 0 (bM L E i) (a ++ b)) j
   else if bl L i ly = true then (bR f (i + 1)).bind fun a j => (bm L jI j).bind fun _ j => (bR f j).bind fun b j => .ok (node 15 [] 0 0 (bM L E i) (a ++ b)) j
   else if bl L i mI = true then (dM L (i + 1)).bind fun x j => (bm L cx j).bind fun _ j => (fQ L j).bind fun n j => (bm L pv j).bind fun _ j => (bR f j).bind fun a j => .ok (node 14 x n 0 (bM L E i) a) j
   else if eP L i 1 = true /\ bl L (i + 1) cx = true then (dM L i).bind fun x j => (bm L cx j).bind fun _ j => (bR f j).bind fun a j => .ok (node 16 x 0 0 (bM L E i) a) j
   else eo f 2 i
def eo : Nat -> Nat -> Nat -> PR (List Nd)
 | 0, _, _ => .out
 | f + 1, lev, i =>
   if lev = 9 then iU f i
   else if lev = 4 then if bl L i Cg = true then (eo f 4 (i + 1)).bind fun a j => .ok (node 19 [] 0 0 (bM L E i) a) j else eo f 5 i
   else (eo f (lev + 1) i).bind fun a j => ia f lev a j
def ia : Nat -> Nat -> List Nd -> Nat -> PR (List Nd)
 | 0, _, _, _ => .out
 | f + 1, lev, left, i => match jB L lev i with
   | none => .ok left i
   | some kind => if lev = 8 then (fQ L (i + 1)).bind fun n j => ia f lev (node kind [] n 0 (bM L E i) left) j
     else (eo f (lev + 1) (i + 1)).bind fun b j => if lev = 5 then .ok (node kind [] 0 0 (bM L E i) (left ++ b)) j else ia f lev (node kind [] 0 0 (bM L E i) (left ++ b)) j
def iU : Nat -> Nat -> PR (List Nd)
 | 0, _ => .out
 | f + 1, i =>
   if bl L i gq = true then .ok (node 27 [] 0 0 (bM L E i) []) (i + 1)
   else if bl L i gG = true then .ok (node 28 [] 0 0 (bM L E i) []) (i + 1)
   else if bl L i jJ = true then .ok (node 29 [] 0 0 (bM L E i) []) (i + 1)
   else if bl L i kZ = true then .ok (node 30 [] 0 0 (bM L E i) []) (i + 1)
   else if bl L i mS = true then (dM L (i + 1)).bind fun x j => .ok (node 31 x 0 0 (bM L E i) []) j
   else if bl L i o8 = true then (dM L (i + 1)).bind fun x j => .ok (node 32 x 0 0 (bM L E i) []) j
   else if bl L i fR = true then (fy f (i + 1)).bind fun a j => (bm L eF j).bind fun _ j => .ok a j
   else if eP L i 2 = true then (fQ L i).bind fun n j => .ok (node 26 [] n 0 (bM L E i) []) j
   else (dM L i).bind fun x j => if bl L j fR = true then (gI f (j + 1)).bind fun a j => (gO f a j).bind fun a j => (bm L eF j).bind fun _ j => .ok (node 34 x 0 0 (bM L E i) a) j
    else .ok (node 33 x 0 0 (bM L E i) []) j
def gO : Nat -> List Nd -> Nat -> PR (List Nd)
 | 0, _, _ => .out
 | f + 1, acc, i => if bl L i nB = true then (gI f (i + 1)).bind fun b j => gO f (acc ++ b) j else .ok acc i
def gI : Nat -> Nat -> PR (List Nd)
 | 0, _ => .out
 | f + 1, i =>
   if bl L i Dc = true then (bm L fR (i + 1)).bind fun _ j => (jr L (jK L E) (L.length + 1) j).bind fun a j => (bm L eF j).bind fun _ j => (bR f j).bind fun b j => .ok (node 35 [] 0 0 (bM L E i) (a ++ b)) j
   else if bl L i wM = true then (bm L Cf (i + 1)).bind fun _ j => (bR f j).bind fun a j => (bm L gE j).bind fun _ j => (bm L Ch j).bind fun _ j => (jK L E j).bind fun b j => (bm L zm j).bind fun _ j => (bR f j).bind fun c j => (bm L zn j).bind fun _ j => .ok (node 36 [] 0 0 (bM L E i) (a ++ b ++ c)) j
   else fy f i
end
def gB (f : Nat) (i : Nat) : PR (List Nd) :=
 if bl L i fA = true then (dM L (i + 1)).bind fun x j => (bm L ja j).bind fun _ j => (lI L E f j).bind fun a j => (bm L gE j).bind fun _ j => .ok (node 2 x 0 0 (bM L E i) a) j
 else (if bl L i jS = true then .ok 3 (i + 1) else (bm L ff i).bind fun _ j => .ok 4 j : PR Int).bind fun k j =>
  (dM L j).bind fun x j => (bm L fR j).bind fun _ j =>
  (if bl L j eF = true then .ok [] j else jr L (gm L E f) f j).bind fun a j =>
  (bm L eF j).bind fun _ j => (bm L ja j).bind fun _ j => (fJ L E j).bind fun b j => (bm L lJ j).bind fun _ j => (fy L E f j).bind fun c j =>
  (bm L gE j).bind fun _ j => .ok (node k x 0 0 (bM L E i) (a ++ b ++ c)) j
def fuel : Nat := 40 * (L.length + 2)
def nM : Nat -> List Nd -> Nat -> PR (List Nd)
 | 0, _, _ => .out
 | f + 1, acc, i => if i < L.length then (gB L E (fuel L) i).bind fun a j => nM f (acc ++ a) j else .ok acc i
end
end Go.Rip
namespace Go.Rip
def Gd {α : Type} (n lo lb : Nat) : PR α -> Prop
 | .ok _ j => lo <= j /\ j <= n
 | .bad j => lb <= j /\ j <= n
 | .out => False
section
variable {α β : Type} {n lo DS lb i : Nat} {L : List Tk} {E : Nat}
theorem Gd.bind {x : PR α} {f : α -> Nat -> PR β} (h : Gd n lo lb x) (k : ∀ a j, lo <= j -> j <= n -> Gd n DS lb (f a j)) : Gd n DS lb (x.bind f) := by
 cases x with
 | ok a j => exact k a j h.1 h.2
 | bad j => exact h
 | out => exact h.elim
theorem Gd.ite {c : Prop} [Decidable c] {x y : PR α} (h : c -> Gd n lo lb x) (k : ¬ c -> Gd n lo lb y) : Gd n lo lb (if c then x else y) := by
 split
 · exact h ‹_›
 · exact k ‹_›
theorem Gd.low {x : PR α} (h : Gd n lo lb x) (k : DS <= lo) : Gd n DS lb x := by
 cases x with
 | ok a j => exact ⟨Nat.le_trans k h.1, h.2⟩
 | bad j => exact h
 | out => exact h
theorem Gd.ta {lb' : Nat} {x : PR α} (h : Gd n lo lb x) (k : lb' <= lb) : Gd n lo lb' x := by
 cases x with
 | ok a j => exact h
 | bad j => exact ⟨Nat.le_trans k h.1, h.2⟩
 | out => exact h
theorem Gd.at' {lb' : Nat} {x : PR α} (h : Gd n lo lb x) (k : DS <= lo) (k' : lb' <= lb) : Gd n DS lb' x := (h.low k).ta k'
theorem cu {w : aZ} (h : bl L i w = true) : i < L.length := by
 unfold bl at h
 split at h
 · rename_i t ht; exact (dP.1 ht).1
 · cases h
theorem UP {k : Nat} (h : eP L i k = true) : i < L.length := by
 unfold eP at h
 split at h
 · rename_i t ht; exact (dP.1 ht).1
 · cases h
theorem c7 {w : aZ} (h : i <= L.length) : Gd L.length (i + 1) i (bm L w i) := by
 unfold bm
 exact .ite (fun c => ⟨cG _, cu c⟩) fun _ => ⟨cG _, h⟩
theorem ku (h : i <= L.length) : Gd L.length (i + 1) i (dM L i) := by
 unfold dM
 split
 · rename_i t ht
   have := (dP.1 ht).1
   exact .ite (fun c => ⟨cG _, this⟩) fun _ => ⟨cG _, h⟩
 · exact ⟨cG _, h⟩
theorem pj (h : i <= L.length) : Gd L.length (i + 1) i (fQ L i) := by
 unfold fQ
 split
 · rename_i t ht
   have := (dP.1 ht).1
   exact .ite (fun c => ⟨cG _, this⟩) fun _ => ⟨cG _, h⟩
 · exact ⟨cG _, h⟩
theorem Gc {one : Nat -> PR (List Nd)} (h1 : ∀ i, i <= L.length -> Gd L.length (i + 1) i (one i)) : ∀ (f : Nat) (acc : List Nd) (i : Nat), i <= L.length -> L.length - i < f -> Gd L.length i i (js L one f acc i)
 | 0, acc, i, hi, hf => by omega
 | f + 1, acc, i, hi, hf => by
   unfold js
   refine .ite (fun c => ?_) fun _ => ⟨cG _, hi⟩
   have := cu c
   refine ((h1 (i + 1) this).ta (lb' := i) (by omega)).bind fun b j h2 h3 => ?_
   exact (Gc h1 f _ j h3 (by omega)).at' (by omega) (by omega)
theorem At {one : Nat -> PR (List Nd)} (h1 : ∀ i, i <= L.length -> Gd L.length (i + 1) i (one i)) {f : Nat} (hi : i <= L.length) (hf : L.length - i <= f) (h0 : 0 < f) : Gd L.length (i + 1) i (jr L one f i) := by
 unfold jr
 refine (h1 i hi).bind fun a j h2 h3 => ?_
 exact (Gc h1 f _ j h3 (by omega)).at' (by omega) (by omega)
theorem nE (h : i <= L.length) : Gd L.length (i + 1) i (fJ L E i) := by
 unfold fJ
 refine .ite (fun c => ⟨cG _, cu c⟩) fun _ => .ite (fun c => ⟨cG _, cu c⟩) fun _ => .ite (fun c => ?_) fun _ => ?_
 · have := cu c
   exact ((pj this).ta (lb' := i) (by omega)).bind fun a j h2 h3 => ⟨by omega, h3⟩
 · refine (c7 h).bind fun a j h2 h3 => ?_
   exact ((pj h3).ta (lb' := i) (by omega)).bind fun a j h2 h3 => ⟨by omega, h3⟩
theorem sZ {f : Nat} (h : i <= L.length) (hf : L.length < f) : Gd L.length (i + 1) i (lI L E f i) := by
 unfold lI
 refine .ite (fun c => ?_) fun _ => nE h
 have := cu c
 refine ((At (fun i hi => nE hi) this (by omega) (by omega)).ta (lb' := i) (by omega)).bind fun a j h2 h3 => ?_
 refine ((c7 h3).ta (lb' := i) (by omega)).bind fun a j h4 h5 => ?_
 refine ((c7 h5).ta (lb' := i) (by omega)).bind fun a j h6 h7 => ?_
 exact ((nE h7).ta (lb' := i) (by omega)).bind fun a j h8 h9 => ⟨by omega, h9⟩
theorem yj {f : Nat} (h : i <= L.length) (hf : L.length < f) : Gd L.length (i + 1) i (gm L E f i) := by
 unfold gm
 refine (ku h).bind fun a j h2 h3 => ?_
 refine ((c7 h3).ta (lb' := i) (by omega)).bind fun a j h4 h5 => ?_
 exact ((sZ h5 hf).ta (lb' := i) (by omega)).bind fun a j h8 h9 => ⟨by omega, h9⟩
theorem sJ (h : i <= L.length) : Gd L.length (i + 1) i (jK L E i) := by
 unfold jK
 exact (ku h).bind fun a j h2 h3 => ⟨h2, h3⟩
theorem Gd.step {lo1 lb1 : Nat} {x : PR α} {f : α -> Nat -> PR β} (h : Gd n lo1 lb1 x) (hb : lb <= lb1) (k : ∀ a j, lo1 <= j -> j <= n -> Gd n DS lb (f a j)) : Gd n DS lb (x.bind f) := (h.ta hb).bind k
theorem IW {lev : Nat} {k : Int} (h : jB L lev i = some k) : i < L.length := by
 unfold jB at h
 repeat' (split at h)
 all_goals first
  | (cases h; done)
  | exact cu ‹_›
theorem qK : ∀ f : Nat,
 (∀ i, i <= L.length -> 40 * (L.length - i) + 11 <= f -> Gd L.length (i + 1) i (fy L E f i)) /\
 (∀ i at_ acc many, i <= L.length -> 40 * (L.length - i) + 1 <= f -> Gd L.length i i (jm L E f at_ acc many i)) /\
 (∀ i, i <= L.length -> 40 * (L.length - i) + 10 <= f -> Gd L.length (i + 1) i (bR L E f i)) /\
 (∀ i lev, i <= L.length -> lev <= 9 -> 40 * (L.length - i) + (11 - lev) <= f -> Gd L.length (i + 1) i (eo L E f lev i)) /\
 (∀ i lev left, i <= L.length -> lev <= 8 -> 40 * (L.length - i) + 1 <= f -> Gd L.length i i (ia L E f lev left i)) /\
 (∀ i, i <= L.length -> 40 * (L.length - i) + 1 <= f -> Gd L.length (i + 1) i (iU L E f i)) /\
 (∀ i acc, i <= L.length -> 40 * (L.length - i) + 1 <= f -> Gd L.length i i (gO L E f acc i)) /\
 (∀ i, i <= L.length -> 40 * (L.length - i) + 12 <= f -> Gd L.length (i + 1) i (gI L E f i)) := by
 intro f
 induction f with
 | zero => refine ⟨?_, ?_, ?_, ?_, ?_, ?_, ?_, ?_⟩ <;> intros <;> omega
 | succ f ih =>
   obtain ⟨iT, iS, iF, iO, iP, iA, iG, iR⟩ := ih
   refine ⟨?_, ?_, ?_, ?_, ?_, ?_, ?_, ?_⟩
   · intro i hi hf
     rw [fy]
     refine (iF i hi (by omega)).bind fun a j h1 h2 => ?_
     exact (iS j _ _ _ h2 (by omega)).at' (by omega) (by omega)
   · intro i at_ acc many hi hf
     rw [jm]
     refine .ite (fun c => ?_) fun _ => ⟨cG _, hi⟩
     have h0 := cu c.1
     refine (iF (i + 1) (by omega) (by omega)).step (by omega) fun a j h1 h2 => ?_
     exact (iS j _ _ _ h2 (by omega)).at' (by omega) (by omega)
   · intro i hi hf
     rw [bR]
     refine .ite (fun c => ?_) fun _ => .ite (fun c => ?_) fun _ => .ite (fun c => ?_) fun _ => .ite (fun c => ?_) fun _ => .ite (fun c => ?_) fun _ => .ite (fun c => ?_) fun _ => .ite (fun c => ?_) fun _ => ?_
     · have h0 := cu c
       refine (iF (i + 1) (by omega) (by omega)).step (by omega) fun a j h1 h2 => (c7 h2).step (by omega) fun a j h3 h4 => (iF j (by omega) (by omega)).step (by omega) fun a j h5 h6 => (c7 h6).step (by omega) fun a j h7 h8 => (iF j (by omega) (by omega)).step (by omega) fun a j h9 lA => ⟨by omega, lA⟩
     · have h0 := cu c
       exact (iF (i + 1) (by omega) (by omega)).step (by omega) fun a j h1 h2 => (c7 h2).step (by omega) fun a j h3 h4 => (iF j (by omega) (by omega)).step (by omega) fun a j h5 h6 => ⟨by omega, h6⟩
     · have h0 := cu c
       exact (ku h0).step (by omega) fun a j h1 h2 => (c7 h2).step (by omega) fun a j h3 h4 => (pj h4).step (by omega) fun a j h5 h6 => (c7 h6).step (by omega) fun a j h7 h8 => (pj h8).step (by omega) fun a j h9 lA => (c7 lA).step (by omega) fun a j h11 uW => (iF j (by omega) (by omega)).step (by omega) fun a j h13 Lt => ⟨by omega, Lt⟩
     · have h0 := cu c
       exact (ku h0).step (by omega) fun a j h1 h2 => (c7 h2).step (by omega) fun a j h3 h4 => (iF j (by omega) (by omega)).step (by omega) fun a j h5 h6 => (c7 h6).step (by omega) fun a j h7 h8 => (iF j (by omega) (by omega)).step (by omega) fun a j h9 lA => ⟨by omega, lA⟩
     · have h0 := cu c
       exact (iF (i + 1) (by omega) (by omega)).step (by omega) fun a j h1 h2 => (c7 h2).step (by omega) fun a j h3 h4 => (iF j (by omega) (by omega)).step (by omega) fun a j h5 h6 => ⟨by omega, h6⟩
     · have h0 := cu c
       exact (ku h0).step (by omega) fun a j h1 h2 => (c7 h2).step (by omega) fun a j h3 h4 => (pj h4).step (by omega) fun a j h5 h6 => (c7 h6).step (by omega) fun a j h7 h8 => (iF j (by omega) (by omega)).step (by omega) fun a j h9 lA => ⟨by omega, lA⟩
     · have h0 := UP c.1
       exact (ku hi).step (by omega) fun a j h1 h2 => (c7 h2).step (by omega) fun a j h3 h4 => (iF j (by omega) (by omega)).step (by omega) fun a j h5 h6 => ⟨by omega, h6⟩
     · exact iO i 2 hi (by omega) (by omega)
   · intro i lev hi hl hf
     rw [eo]
     refine .ite (fun c => ?_) fun c9 => .ite (fun c => .ite (fun d => ?_) fun d => ?_) fun c4 => ?_
     · exact iA i hi (by omega)
     · have h0 := cu d
       exact (iO (i + 1) 4 (by omega) (by omega) (by omega)).step (by omega) fun a j h1 h2 => ⟨by omega, h2⟩
     · exact iO i 5 hi (by omega) (by omega)
     · refine (iO i (lev + 1) hi (by omega) (by omega)).bind fun a j h1 h2 => ?_
       exact (iP j lev a h2 (by omega) (by omega)).at' (by omega) (by omega)
   · intro i lev left hi hl hf
     rw [ia]
     split
     · exact ⟨cG _, hi⟩
     · rename_i k hk
       have h0 := IW hk
       refine .ite (fun c => ?_) fun c => ?_
       · exact (pj h0).step (by omega) fun a j h1 h2 => (iP j lev _ h2 hl (by omega)).at' (by omega) (by omega)
       · refine (iO (i + 1) (lev + 1) h0 (by omega) (by omega)).step (by omega) fun a j h1 h2 => .ite (fun _ => ⟨by omega, h2⟩) fun _ => ?_
         exact (iP j lev _ h2 hl (by omega)).at' (by omega) (by omega)
   · intro i hi hf
     rw [iU]
     refine .ite (fun c => ⟨cG _, cu c⟩) fun _ => .ite (fun c => ⟨cG _, cu c⟩) fun _ => .ite (fun c => ⟨cG _, cu c⟩) fun _ => .ite (fun c => ⟨cG _, cu c⟩) fun _ => .ite (fun c => ?_) fun _ => .ite (fun c => ?_) fun _ => .ite (fun c => ?_) fun _ => .ite (fun c => ?_) fun _ => ?_
     · have h0 := cu c
       exact (ku h0).step (by omega) fun a j h1 h2 => ⟨by omega, h2⟩
     · have h0 := cu c
       exact (ku h0).step (by omega) fun a j h1 h2 => ⟨by omega, h2⟩
     · have h0 := cu c
       exact (iT (i + 1) (by omega) (by omega)).step (by omega) fun a j h1 h2 => (c7 h2).step (by omega) fun a j h3 h4 => ⟨by omega, h4⟩
     · exact (pj hi).step (by omega) fun a j h1 h2 => ⟨by omega, h2⟩
     · refine (ku hi).step (by omega) fun a j h1 h2 => .ite (fun c => ?_) fun _ => ⟨by omega, h2⟩
       have h0 := cu c
       exact (iR (j + 1) (by omega) (by omega)).step (by omega) fun a j h3 h4 => (iG j _ h4 (by omega)).step (by omega) fun a j h5 h6 => (c7 h6).step (by omega) fun a j h7 h8 => ⟨by omega, h8⟩
   · intro i acc hi hf
     rw [gO]
     refine .ite (fun c => ?_) fun _ => ⟨cG _, hi⟩
     have h0 := cu c
     exact (iR (i + 1) (by omega) (by omega)).step (by omega) fun a j h1 h2 => (iG j _ h2 (by omega)).at' (by omega) (by omega)
   · intro i hi hf
     rw [gI]
     refine .ite (fun c => ?_) fun _ => .ite (fun c => ?_) fun _ => ?_
     · have h0 := cu c
       exact (c7 h0).step (by omega) fun a j h1 h2 => (At (fun i hi => sJ hi) h2 (by omega) (by omega)).step (by omega) fun a j h3 h4 => (c7 h4).step (by omega) fun a j h5 h6 => (iF j (by omega) (by omega)).step (by omega) fun a j h7 h8 => ⟨by omega, h8⟩
     · have h0 := cu c
       exact (c7 h0).step (by omega) fun a j h1 h2 => (iF j (by omega) (by omega)).step (by omega) fun a j h3 h4 => (c7 h4).step (by omega) fun a j h5 h6 => (c7 h6).step (by omega) fun a j h7 h8 => (sJ h8).step (by omega) fun a j h9 lA => (c7 lA).step (by omega) fun a j h11 uW => (iF j (by omega) (by omega)).step (by omega) fun a j h13 Lt => (c7 Lt).step (by omega) fun a j h15 XI => ⟨by omega, XI⟩
     · exact iT i hi (by omega)
theorem F3 {f : Nat} (hi : i <= L.length) (hf : 40 * (L.length - i) + 11 <= f) (zF : L.length < f) : Gd L.length (i + 1) i (gB L E f i) := by
 unfold gB
 refine .ite (fun c => ?_) fun _ => ?_
 · have h0 := cu c
   exact (ku h0).step (by omega) fun a j h1 h2 => (c7 h2).step (by omega) fun a j h3 h4 => (sZ h4 zF).step (by omega) fun a j h5 h6 => (c7 h6).step (by omega) fun a j h7 h8 => ⟨by omega, h8⟩
 · refine Gd.bind (lo := i + 1) (.ite (fun c => ⟨cG _, cu c⟩) fun _ => (c7 hi).bind fun a j h1 h2 => ⟨h1, h2⟩) fun k j h1 h2 => ?_
   refine (ku h2).step (by omega) fun a j h3 h4 => (c7 h4).step (by omega) fun a j h5 h6 => ?_
   refine Gd.step (lo1 := j) (lb1 := j) (.ite (fun c => ⟨cG _, h6⟩) fun _ => (At (fun i hi => yj hi zF) h6 (by omega) (by omega)).low (by omega)) (by omega) fun a j h7 h8 => ?_
   exact (c7 h8).step (by omega) fun a j h9 lA => (c7 lA).step (by omega) fun a j h11 uW => (nE uW).step (by omega) fun a j h13 Lt => (c7 Lt).step (by omega) fun a j h15 XI => ((qK f).1 j XI (by omega)).step (by omega) fun a j h17 h18 => (c7 h18).step (by omega) fun a j h19 h20 => ⟨by omega, h20⟩
theorem J4 (hi : i <= L.length) : Gd L.length (i + 1) i (gB L E (fuel L) i) := F3 hi (by unfold fuel; omega) (by unfold fuel; omega)
end
end Go.Rip
namespace Go.Rip
def lM (t : Tk) : Prop := t.s ≠ [] /\ gx t.s = (0, t.k, t.s)
theorem vy (p : UInt8 -> Bool) : ∀ l : aZ, (l.takeWhile p).takeWhile p = l.takeWhile p
 | [] => rfl
 | c :: l => by
   simp only [pn]
   cases h : p c with
   | true => simp [h, vy p l]
   | false => rfl
theorem GF : ∀ x ∈ gL, gx x = (0, 4, x) /\ x ≠ [] := by decide
theorem vA {s : aZ} {k : Nat} {t : aZ} (h : gx s = (0, k, t)) : lM ⟨k, t, 0⟩ /\ t <+: s := by
 have hid := vy dx s
 have Ap := rT dx (l := s)
 unfold gx at h
 simp only at h
 split at h
 · rename_i hw
   split at h
   · rename_i x hx
     simp only [lq, true_and] at h
     obtain ⟨rfl, rfl⟩ := h
     have hm := List.mem_of_find?_eq_some hx
     have hp := List.find?_some hx
     exact ⟨⟨(GF _ hm).2, (GF _ hm).1⟩, List.isPrefixOf_iff_prefix.1 hp⟩
   · simp at h
 · rename_i c r hw
   have key : ∀ {e : Int} {k : Nat}, gx (s.takeWhile dx) = (e, k, s.takeWhile dx) -> e = 0 -> lM ⟨k, s.takeWhile dx, 0⟩ /\ s.takeWhile dx <+: s := fun h1 h2 => ⟨⟨by simp [hw], by rw [h1, h2]⟩, Ap⟩
   split at h
   · rename_i hd
     simp only [lq] at h
     obtain ⟨h1, rfl, rfl⟩ := h
     refine key ?_ h1
     unfold gx
     simp only [hid]
     rw [hw]
     simp only [if_pos hd]
   · rename_i hd
     split at h
     · simp at h
     · rename_i hs
       split at h
       · rename_i hk
         simp only [lq, true_and] at h
         obtain ⟨rfl, rfl⟩ := h
         refine key ?_ rfl
         unfold gx
         simp only [hid]
         rw [hw] at hk ⊢
         simp only [if_neg hd, if_neg hs, if_pos hk]
       · rename_i hk
         split at h
         · simp at h
         · rename_i hl
           simp only [lq, true_and] at h
           obtain ⟨rfl, rfl⟩ := h
           refine key ?_ rfl
           unfold gx
           simp only [hid]
           rw [hw] at hk hl ⊢
           simp only [if_neg hd, if_neg hs, if_neg hk, if_neg hl]
theorem y7 : ∀ (f : Nat) (s : aZ) (p : Nat) (l : List Tk) {L : List Tk}, je f s p l = .ok L -> (∀ t ∈ l, lM t) -> l.length <= 900 -> (∀ t ∈ L, lM t) /\ L.length <= 900
 | 0, s, p, l, L, h, hl, hn => by simp only [je, EM.ok.injEq] at h; subst h; exact ⟨hl, hn⟩
 | f + 1, s, p, l, L, h, hl, hn => by
   simp only [je] at h
   split at h
   · simp only [EM.ok.injEq] at h; subst h; exact ⟨hl, hn⟩
   · split at h
     · exact y7 f s _ l h hl hn
     · split at h
       · exact y7 f s _ l h hl hn
       · split at h
         · cases h
         · rename_i he
           split at h
           · cases h
           · rename_i hc
             refine y7 f s _ _ h (fun t ht => ?_) (by simp; omega)
             simp only [gg, nS] at ht
             rcases ht with ht | rfl
             · exact hl t ht
             · have kI : (gx _).1 = 0 := Decidable.not_not.1 he
               exact (vA (Prod.ext kI rfl)).1
theorem CO {s : aZ} {L : List Tk} (h : jf s = .ok L) : (∀ t ∈ L, lM t) /\ L.length <= 900 := by
 unfold jf at h
 split at h
 split at h
 · cases h
 · exact y7 _ _ _ _ h (by simp) (by simp)
end Go.Rip
namespace Go.Rip
def ix (a : Int) (s : aZ) : Int := s.foldl (fun n c => min (10 * n + ((c.toNat : Int) - 48)) 1000001) a
def pc (a : Int) (s : aZ) : Int := s.foldl (fun n c => 10 * n + ((c.toNat : Int) - 48)) a
theorem jW {c : UInt8} : eD c = true ↔ 48 <= c.toNat /\ c.toNat <= 57 := by simp [eD]
theorem CW : ∀ (s : aZ) (a : Int), a <= 1000001 -> ix a s <= 1000001
 | [], a, h => h
 | c :: s, a, h => CW s (min (10 * a + ((c.toNat : Int) - 48)) 1000001) (by omega)
theorem sC : ∀ (s : aZ) (a : Int), s.all eD = true -> 0 <= a -> min a 1000001 <= ix a s
 | [], a, _, h => by simp [ix]; omega
 | c :: s, a, hd, h => by
   simp only [List.all_cons, cF] at hd
   have h1 := jW.1 hd.1
   have := sC s (min (10 * a + ((c.toNat : Int) - 48)) 1000001) hd.2 (by omega)
   have e : ix a (c :: s) = ix (min (10 * a + ((c.toNat : Int) - 48)) 1000001) s := rfl
   omega
theorem DZ : ∀ (s : aZ) (a : Int), s.all eD = true -> 0 <= a -> ix a s <= 1000000 -> ix a s = pc a s
 | [], a, _, _, _ => rfl
 | c :: s, a, hd, h, hl => by
   simp only [List.all_cons, cF] at hd
   have h1 := jW.1 hd.1
   have e : ix a (c :: s) = ix (min (10 * a + ((c.toNat : Int) - 48)) 1000001) s := rfl
   have e2 : pc a (c :: s) = pc (10 * a + ((c.toNat : Int) - 48)) s := rfl
   have hg := sC s (min (10 * a + ((c.toNat : Int) - 48)) 1000001) hd.2 (by omega)
   have hm : min (10 * a + ((c.toNat : Int) - 48)) 1000001 = 10 * a + ((c.toNat : Int) - 48) := by omega
   rw [hm] at e
   rw [e, e2]
   exact DZ s _ hd.2 (by omega) (by omega)
theorem Gk : ∀ (s : aZ) (a : Int), s.all eD = true -> 1 <= a -> ix a s <= 1000000 -> 10 ^ s.length * a <= ix a s
 | [], a, _, _, _ => by simp [ix]
 | c :: s, a, hd, h, hl => by
   simp only [List.all_cons, cF] at hd
   have h1 := jW.1 hd.1
   have e : ix a (c :: s) = ix (min (10 * a + ((c.toNat : Int) - 48)) 1000001) s := rfl
   have hg := sC s (min (10 * a + ((c.toNat : Int) - 48)) 1000001) hd.2 (by omega)
   have hm : min (10 * a + ((c.toNat : Int) - 48)) 1000001 = 10 * a + ((c.toNat : Int) - 48) := by omega
   rw [hm] at e
   rw [e] at hl ⊢
   have := Gk s _ hd.2 (by omega) hl
   have hp : (0 : Int) < 10 ^ s.length := Int.pow_pos (by omega)
   have : 10 ^ s.length * (10 * a) <= 10 ^ s.length * (10 * a + ((c.toNat : Int) - 48)) := Int.mul_le_mul_of_nonneg_left (by omega) (by omega)
   rw [lk, Int.pow_succ, Int.mul_assoc]
   omega
theorem CV {s : aZ} (h : ky s = 0) : s.all eD = true /\ ¬ (1 < s.length /\ s.head? = some 48) /\ CX s <= 1000000 := by
 unfold ky at h
 split at h
 · cases h
 · rename_i h1
   split at h
   · cases h
   · rename_i h2
     split at h
     · cases h
     · rename_i h3; exact ⟨by simpa using h1, h2, by omega⟩
theorem yf {s : aZ} (h0 : s ≠ []) (h : ky s = 0) : 1 <= s.length /\ s.length <= 7 /\ CX s = uj s /\ 0 <= uj s /\ uj s <= 1000000 := by
 obtain ⟨h1, h2, h3⟩ := CV h
 have hv : CX s = ix 0 s := rfl
 have hd : uj s = pc 0 s := rfl
 have e := DZ s 0 h1 (by omega) (by omega)
 have hg := sC s 0 h1 (by omega)
 refine ⟨?_, ?_, by omega, by omega, by omega⟩
 · cases s with
   | nil => exact absurd rfl h0
   | cons c s => simp
 · cases s with
   | nil => simp
   | cons c s =>
     simp only [List.all_cons, cF] at h1
     have hc := jW.1 h1.1
     rcases eZ s.length 1 with hl | hl
     · simp; omega
     · have XW : c ≠ 48 := fun e => h2 ⟨by simp; omega, by simp [e]⟩
       have zC : c.toNat ≠ 48 := fun e => XW (by apply UInt8.toNat_inj.1; simpa using e)
       have e1 : ix 0 (c :: s) = ix ((c.toNat : Int) - 48) s := by
        show ix (min (10 * 0 + ((c.toNat : Int) - 48)) 1000001) s = _
        congr 1; omega
       have hlen := Gk s ((c.toNat : Int) - 48) h1.2 (by omega) (by omega)
       rcases eZ s.length 7 with hl | hl
       · simp; omega
       · exfalso
         have h7 : (10 : Int) ^ 7 <= 10 ^ s.length := by
          have := Nat.pow_le_pow_right (n := 10) (by omega) hl
          exact_mod_cast this
         have : (10 : Int) ^ s.length * 1 <= 10 ^ s.length * ((c.toNat : Int) - 48) := Int.mul_le_mul_of_nonneg_left (by omega) (by omega)
         omega
theorem Su {s : aZ} (h : gx s = (0, 2, s)) (h0 : s ≠ []) : ky s = 0 := by
 unfold gx at h
 simp only at h
 split at h
 · split at h <;> simp at h
 · rename_i c r hw
   split at h
   · simp only [lq, true_and] at h
     rw [h.2] at h; exact h.1
   · split at h
     · simp at h
     · split at h
       · simp at h
       · split at h <;> simp at h
theorem CY {t : Tk} (h : lM t) (hk : t.k = 2) : ky t.s = 0 := Su (by rw [h.2, hk]) h.1
theorem zw : ∀ (s : aZ) (a : Nat), s.all eD = true -> ∃ m, Lib.decFrom a s = some m /\ (m : Int) = pc a s
 | [], a, _ => ⟨a, rfl, rfl⟩
 | c :: s, a, h => by
   simp only [List.all_cons, cF] at h
   have hc := jW.1 h.1
   obtain ⟨m, h1, h2⟩ := zw s (a * 10 + (c.toNat - 48)) h.2
   refine ⟨m, ?_, ?_⟩
   · simp only [Lib.decFrom, Lib.digitVal, if_pos hc]; exact h1
   · rw [h2]
     show pc _ s = pc (10 * (a : Int) + ((c.toNat : Int) - 48)) s
     congr 1; omega
theorem Qo {s : aZ} (h0 : s ≠ []) (h : s.all eD = true) : Lib.atoi s = some (uj s) := by
 cases s with
 | nil => exact absurd rfl h0
 | cons c s =>
   have h' := h
   simp only [List.all_cons, cF] at h'
   have hc := jW.1 h'.1
   obtain ⟨m, h1, h2⟩ := zw (c :: s) 0 h
   have c45 : (c == 45) = false := by simp; rintro rfl; simp at hc
   have c43 : (c == 43) = false := by simp; rintro rfl; simp at hc
   simp only [Lib.atoi, c45, c43, bH, if_false, Lib.decNat, List.isEmpty_cons, h1, Option.map_some, iE]
   exact h2
end Go.Rip
namespace Go.Rip
theorem yI {s : aZ} {k : Nat} {t : aZ} (h : gx s = (0, k, t)) : (k = 1 /\ t ∉ kr /\ t.length <= 12 /\ (∃ c r, t = c :: r /\ kS c = true) /\ t.all dx = true) \/ (k = 2 /\ ∃ c r, t = c :: r /\ eD c = true) \/ (k = 3 /\ t ∈ kr) \/ (k = 4 /\ t ∈ gL) := by
 have cq : (s.takeWhile dx).all dx = true := by
  rw [eY]; intro x hx
  have : ∀ l : aZ, x ∈ l.takeWhile dx -> dx x = true := fun l => by
   induction l with
   | nil => simp
   | cons c l ih =>
     simp only [pn]
     split
     · rename_i hc
       intro h
       rcases fC.1 h with rfl | h
       · exact hc
       · exact ih h
     · simp
  exact this s hx
 unfold gx at h
 simp only at h
 split at h
 · split at h
   · rename_i x hx
     simp only [lq, true_and] at h
     obtain ⟨rfl, rfl⟩ := h
     exact .inr (.inr (.inr ⟨rfl, List.mem_of_find?_eq_some hx⟩))
   · simp at h
 · rename_i c r hw
   split at h
   · rename_i hd
     simp only [lq] at h
     obtain ⟨h1, rfl, rfl⟩ := h
     exact .inr (.inl ⟨rfl, c, r, hw, hd⟩)
   · split at h
     · simp at h
     · rename_i hs
       split at h
       · rename_i hk
         simp only [lq, true_and] at h
         obtain ⟨rfl, rfl⟩ := h
         exact .inr (.inr (.inl ⟨rfl, hk⟩))
       · rename_i hk
         split at h
         · simp at h
         · rename_i hl
           simp only [lq, true_and] at h
           obtain ⟨rfl, rfl⟩ := h
           exact .inl ⟨rfl, hk, by omega, ⟨c, r, hw, by simpa using hs⟩, cq⟩
theorem lM.cases {t : Tk} (h : lM t) : (t.k = 1 /\ t.s ∉ kr) \/ t.k = 2 \/ (t.k = 3 /\ t.s ∈ kr) \/ (t.k = 4 /\ t.s ∈ gL) := by
 rcases yI h.2 with h | h | h | h
 · exact .inl ⟨h.1, h.2.1⟩
 · exact .inr (.inl h.1)
 · exact .inr (.inr (.inl h))
 · exact .inr (.inr (.inr h))
theorem J9 : ∀ w ∈ kr, w ∉ gL := by decide
theorem tK {L : List Tk} {i : Nat} {w : aZ} (h : bl L i w = true) : ∃ t, L[i]? = some t /\ (t.k = 3 \/ t.k = 4) /\ t.s = w := by
 unfold bl at h
 split at h
 · rename_i t ht
   simp only [cF, ln, beq_iff_eq] at h
   exact ⟨t, ht, h.1, h.2⟩
 · cases h
theorem CN {L : List Tk} {i : Nat} {w : aZ} {t : Tk} (ht : L[i]? = some t) (hk : t.k = 3 \/ t.k = 4) (hs : t.s = w) : bl L i w = true := by
 unfold bl; rw [ht]; simp [hs, hk]
theorem Iv {L : List Tk} (hL : ∀ t ∈ L, lM t) {i : Nat} {w : aZ} (hw : w ∈ kr) (h : bl L i w = true) : ∃ t, L[i]? = some t /\ t.k = 3 /\ t.s = w := by
 obtain ⟨t, ht, hk, hs⟩ := tK h
 refine ⟨t, ht, ?_, hs⟩
 rcases hk with hk | hk
 · exact hk
 · rcases (hL t (gK ht)).cases with h | h | h | h
   · omega
   · omega
   · omega
   · rw [hs] at h; exact absurd h.2 (J9 w hw)
def qW (o : Option Tk) : aZ := match o with | some t => if t.k = 3 \/ t.k = 4 then t.s else [] | none => []
theorem DO {L : List Tk} {i : Nat} {w : aZ} (hw : w ≠ []) : bl L i w = decide (qW L[i]? = w) := by
 unfold bl qW
 split
 · rename_i t ht
   by_cases h : t.k = 3 \/ t.k = 4
   · by_cases hs : t.s = w <;> simp [ht, h, hs]
   · have h3 : ¬ t.k = 3 := fun e => h (.inl e)
     have h4 : ¬ t.k = 4 := fun e => h (.inr e)
     simp [ht, h3, h4, Ne.symm hw]
 · rename_i ht; simp [ht, Ne.symm hw]
end Go.Rip
