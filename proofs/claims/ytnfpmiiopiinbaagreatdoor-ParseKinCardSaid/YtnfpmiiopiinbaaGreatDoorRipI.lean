/- Lemmas for the proof: no conditions. -/
import Derived.Test.YtnfpmiiopiinbaaGreatDoorRipZz
import Derived.Test.YtnfpmiiopiinbaaGreatDoorRipD
import Derived.Lib.Atoi
set_option linter.unusedVariables false
set_option linter.unusedSimpArgs false
set_option linter.loopingSimpArgs false
namespace Go.Rip
abbrev aW := List UInt8
structure Tk where
 k : Nat
 s : aW
 at_ : Nat
 deriving DecidableEq
structure Nd where
 kind : Int
 text : aW
 n : Int
 m : Int
 at_ : Int
 size : Int
 deriving DecidableEq
def fA (c : UInt8) : Bool := decide (48 <= c.toNat /\ c.toNat <= 57)
def nh (c : UInt8) : Bool := decide (97 <= c.toNat /\ c.toNat <= 122)
def EK (c : UInt8) : Bool := decide (65 <= c.toNat /\ c.toNat <= 90)
def dG (c : UInt8) : Bool := fA c || nh c || EK c
def ml (c : UInt8) : Bool := decide (c.toNat = 10 \/ 32 <= c.toNat /\ c.toNat <= 126)
def BC (s : aW) : Int := s.foldl (fun n c => min (10 * n + ((c.toNat : Int) - 48)) 1000001) 0
def rp (s : aW) : Int := s.foldl (fun n c => 10 * n + ((c.toNat : Int) - 48)) 0
def lG (s : aW) : Int := if s.all fA = false then 4 else if 1 < s.length /\ s.head? = some 48 then 4 else if 1000000 < BC s then 3 else 0
def mQ : List aW := [z8, FH, Su, Sv, o7, Uj, uH, Cg, kf, mY, fH, FJ, FL, kg, yG, mZ, qm, Uk, mI, qX, xH, FN, o9, W4, FO, FP, iW, ue, fl, ov]
def p9 : List aW := [cw, ij, xE, xD, xz, xB, xy, oe, og, pN, xF, z7, xA, sh, xC, z6]
def gN (s : aW) : Int × Nat × aW :=
 let w := s.takeWhile dG
 match w with
 | [] => match p9.find? fun x => x.isPrefixOf s with
   | some x => (0, 4, x)
   | none => (4, 0, [])
 | c :: _ => if fA c then (lG w, 2, w) else if nh c = false then (4, 0, []) else if w ∈ mQ then (0, 3, w) else if 12 < w.length then (4, 0, []) else (0, 1, w)
inductive Ac where
 | ok (l : List Tk)
 | bad (p : Nat) (e : Int)
def jH : Nat -> aW -> Nat -> List Tk -> Ac
 | 0, _, _, l => .ok l
 | f + 1, s, p, l => match s.drop p with
   | [] => .ok l
   | c :: r => if c.toNat = 32 \/ c.toNat = 10 then jH f s (p + 1) l
     else if c.toNat = 126 then jH f s (p + ((c :: r).takeWhile fun c => c.toNat ≠ 10).length) l
     else match gN (c :: r) with
      | (e, k, t) => if e ≠ 0 then .bad p e else if l.length = 900 then .bad p 5 else jH f s (p + t.length) (l ++ [⟨k, t, p⟩])
def pT (s : aW) : Nat × Int := if 2500 < s.length then (0, 5) else match s.findIdx? (fun c => !ml c) with | some i => (i, 2) | none => (0, 0)
def mv (s : aW) : Ac := match pT s with
 | (p, e) => if e ≠ 0 then .bad p e else jH s.length s 0 []
inductive PR (α : Type) where
 | ok (a : α) (i : Nat)
 | bad (i : Nat)
 | out
def PR.bind {α β : Type} (x : PR α) (f : α -> Nat -> PR β) : PR β := match x with
 | .ok a i => f a i
 | .bad i => .bad i
 | .out => .out
def node (kind : Int) (text : aW) (n m at_ : Int) (kids : List Nd) : List Nd := ⟨kind, text, n, m, at_, (kids.length : Int) + 1⟩ :: kids
section
variable (L : List Tk) (E : Nat)
def dR (i : Nat) : Int := match L[i]? with | some t => t.at_ | none => E
def bW (i : Nat) (w : aW) : Bool := match L[i]? with | some t => (t.k == 3 || t.k == 4) && t.s == w | none => false
def pX (i : Nat) (k : Nat) : Bool := match L[i]? with | some t => t.k == k | none => false
def Bm (i : Nat) : Bool := bW L i mZ || bW L i uH || bW L i mY
def bY (w : aW) (i : Nat) : PR Unit := if bW L i w = true then .ok () (i + 1) else .bad i
def gJ (i : Nat) : PR aW := match L[i]? with | some t => if t.k = 1 then .ok t.s (i + 1) else .bad i | none => .bad i
def jh (i : Nat) : PR Int := match L[i]? with | some t => if t.k = 2 then .ok (rp t.s) (i + 1) else .bad i | none => .bad i
def n7 (one : Nat -> PR (List Nd)) : Nat -> List Nd -> Nat -> PR (List Nd)
 | 0, _, _ => .out
 | f + 1, acc, i => if bW L i xA = true then (one (i + 1)).bind fun b j => n7 one f (acc ++ b) j else .ok acc i
def ux (one : Nat -> PR (List Nd)) (f : Nat) (i : Nat) : PR (List Nd) := (one i).bind fun a j => n7 L one f a j
def wi (i : Nat) : PR (List Nd) := (gJ L i).bind fun x j => .ok (node 37 x 0 0 (dR L E i) []) j
def BG (lev : Nat) (i : Nat) : Option Int :=
 if lev = 2 then if bW L i FO = true then some 17 else none
 else if lev = 3 then if bW L i z8 = true then some 18 else none
 else if lev = 5 then if bW L i xE = true then some 20 else if bW L i xD = true then some 21 else none
 else if lev = 6 then if bW L i xz = true then some 22 else if bW L i xB = true then some 23 else none
 else if lev = 7 then if bW L i xy = true then some 24 else none
 else if lev = 8 then if bW L i FH = true then some 25 else none
 else none
mutual
def se : Nat -> Nat -> PR (List Nd)
 | 0, _ => .out
 | f + 1, i => (bU f i).bind fun a j => vV f (dR L E j) a 1 j
def vV : Nat -> Int -> List Nd -> Nat -> Nat -> PR (List Nd)
 | 0, _, _, _, _ => .out
 | f + 1, at_, acc, many, i => if bW L i sh = true /\ i + 1 < L.length /\ Bm L (i + 1) = false then (bU f (i + 1)).bind fun b j => vV f at_ (acc ++ b) (many + 1) j
   else .ok (if many = 1 then acc else node 9 [] 0 0 at_ acc) i
def bU : Nat -> Nat -> PR (List Nd)
 | 0, _ => .out
 | f + 1, i =>
   if bW L i yG = true then (bU f (i + 1)).bind fun c j => (bY L ue j).bind fun _ j => (bU f j).bind fun a j => (bY L kf j).bind fun _ j => (bU f j).bind fun b j => .ok (node 10 [] 0 0 (dR L E i) (c ++ a ++ b)) j
   else if bW L i ov = true then (bU f (i + 1)).bind fun a j => (bY L Cg j).bind fun _ j => (bU f j).bind fun b j => .ok (node 11 [] 0 0 (dR L E i) (a ++ b)) j
   else if bW L i xH = true then (gJ L (i + 1)).bind fun x j => (bY L xC j).bind fun _ j => (jh L j).bind fun n j => (bY L cw j).bind fun _ j => (jh L j).bind fun m j => (bY L qm j).bind fun _ j => (bU f j).bind fun a j => .ok (node 12 x n m (dR L E i) a) j
   else if bW L i qX = true then (gJ L (i + 1)).bind fun x j => (bY L qm j).bind fun _ j => (bU f j).bind fun a j => (bY L kf j).bind fun _ j => (bU f j).bind fun b j => .ok (node 13 x 0 0 (dR L E i) (a ++ b)) j
   else if bW L i o7 = true then (bU f (i + 1)).bind fun a j => (bY L kf j).bind fun _ j => (bU f j).bind fun b j => .ok (node 15 [] 0 0 (dR L E i) (a ++ b)) j
   else if bW L i o9 = true then (gJ L (i + 1)).bind fun x j => (bY L cw j).bind fun _ j => (jh L j).bind fun n j => (bY L qm j).bind fun _ j => (bU f j).bind fun a j => .ok (node 14 x n 0 (dR L E i) a) j
   else if pX L i 1 = true /\ bW L (i + 1) cw = true then (gJ L i).bind fun x j => (bY L cw j).bind fun _ j => (bU f j).bind fun a j => .ok (node 16 x 0 0 (dR L E i) a) j
   else ji f 2 i
def ji : Nat -> Nat -> Nat -> PR (List Nd)
 | 0, _, _ => .out
 | f + 1, lev, i =>
   if lev = 9 then rj f i
   else if lev = 4 then if bW L i FN = true then (ji f 4 (i + 1)).bind fun a j => .ok (node 19 [] 0 0 (dR L E i) a) j else ji f 5 i
   else (ji f (lev + 1) i).bind fun a j => rO f lev a j
def rO : Nat -> Nat -> List Nd -> Nat -> PR (List Nd)
 | 0, _, _, _ => .out
 | f + 1, lev, left, i => match BG L lev i with
   | none => .ok left i
   | some kind => if lev = 8 then (jh L (i + 1)).bind fun n j => rO f lev (node kind [] n 0 (dR L E i) left) j
     else (ji f (lev + 1) (i + 1)).bind fun b j => if lev = 5 then .ok (node kind [] 0 0 (dR L E i) (left ++ b)) j else rO f lev (node kind [] 0 0 (dR L E i) (left ++ b)) j
def rj : Nat -> Nat -> PR (List Nd)
 | 0, _ => .out
 | f + 1, i =>
   if bW L i fl = true then .ok (node 27 [] 0 0 (dR L E i) []) (i + 1)
   else if bW L i fH = true then .ok (node 28 [] 0 0 (dR L E i) []) (i + 1)
   else if bW L i iW = true then .ok (node 29 [] 0 0 (dR L E i) []) (i + 1)
   else if bW L i kg = true then .ok (node 30 [] 0 0 (dR L E i) []) (i + 1)
   else if bW L i mI = true then (gJ L (i + 1)).bind fun x j => .ok (node 31 x 0 0 (dR L E i) []) j
   else if bW L i oe = true then (gJ L (i + 1)).bind fun x j => .ok (node 32 x 0 0 (dR L E i) []) j
   else if bW L i og = true then (se f (i + 1)).bind fun a j => (bY L pN j).bind fun _ j => .ok a j
   else if pX L i 2 = true then (jh L i).bind fun n j => .ok (node 26 [] n 0 (dR L E i) []) j
   else (gJ L i).bind fun x j => if bW L j og = true then (mO f (j + 1)).bind fun a j => (nV f a j).bind fun a j => (bY L pN j).bind fun _ j => .ok (node 34 x 0 0 (dR L E i) a) j
    else .ok (node 33 x 0 0 (dR L E i) []) j
def nV : Nat -> List Nd -> Nat -> PR (List Nd)
 | 0, _, _ => .out
 | f + 1, acc, i => if bW L i xA = true then (mO f (i + 1)).bind fun b j => nV f (acc ++ b) j else .ok acc i
def mO : Nat -> Nat -> PR (List Nd)
 | 0, _ => .out
 | f + 1, i =>
   if bW L i FJ = true then (bY L og (i + 1)).bind fun _ j => (ux L (wi L E) (L.length + 1) j).bind fun a j => (bY L pN j).bind fun _ j => (bU f j).bind fun b j => .ok (node 35 [] 0 0 (dR L E i) (a ++ b)) j
   else if bW L i xF = true then (bY L FL (i + 1)).bind fun _ j => (bU f j).bind fun a j => (bY L sh j).bind fun _ j => (bY L FP j).bind fun _ j => (wi L E j).bind fun b j => (bY L z6 j).bind fun _ j => (bU f j).bind fun c j => (bY L z7 j).bind fun _ j => .ok (node 36 [] 0 0 (dR L E i) (a ++ b ++ c)) j
   else se f i
end
def fuel : Nat := 40 * (L.length + 2)
end
end Go.Rip
namespace Go.Rip
def Gd {α : Type} (n lo lb : Nat) : PR α -> Prop
 | .ok _ j => lo <= j /\ j <= n
 | .bad j => lb <= j /\ j <= n
 | .out => False
section
variable {α β : Type} {n lo zj lb i : Nat} {L : List Tk} {E : Nat}
theorem Gd.bind {x : PR α} {f : α -> Nat -> PR β} (h : Gd n lo lb x) (k : ∀ a j, lo <= j -> j <= n -> Gd n zj lb (f a j)) : Gd n zj lb (x.bind f) := by
 cases x with
 | ok a j => exact k a j h.1 h.2
 | bad j => exact h
 | out => exact h.elim
theorem Gd.ite {c : Prop} [Decidable c] {x y : PR α} (h : c -> Gd n lo lb x) (k : ¬ c -> Gd n lo lb y) : Gd n lo lb (if c then x else y) := by
 split
 · exact h ‹_›
 · exact k ‹_›
theorem Gd.low {x : PR α} (h : Gd n lo lb x) (k : zj <= lo) : Gd n zj lb x := by
 cases x with
 | ok a j => exact ⟨Nat.le_trans k h.1, h.2⟩
 | bad j => exact h
 | out => exact h
theorem Gd.KW {lb' : Nat} {x : PR α} (h : Gd n lo lb x) (k : lb' <= lb) : Gd n lo lb' x := by
 cases x with
 | ok a j => exact h
 | bad j => exact ⟨Nat.le_trans k h.1, h.2⟩
 | out => exact h
theorem Gd.at' {lb' : Nat} {x : PR α} (h : Gd n lo lb x) (k : zj <= lo) (k' : lb' <= lb) : Gd n zj lb' x := (h.low k).KW k'
theorem cG {w : aW} (h : bW L i w = true) : i < L.length := by
 unfold bW at h
 split at h
 · rename_i t ht; exact (cT.1 ht).1
 · cases h
theorem NS {k : Nat} (h : pX L i k = true) : i < L.length := by
 unfold pX at h
 split at h
 · rename_i t ht; exact (cT.1 ht).1
 · cases h
theorem di {w : aW} (h : i <= L.length) : Gd L.length (i + 1) i (bY L w i) := by
 unfold bY
 exact .ite (fun c => ⟨cA _, cG c⟩) fun _ => ⟨cA _, h⟩
theorem jZ (h : i <= L.length) : Gd L.length (i + 1) i (gJ L i) := by
 unfold gJ
 split
 · rename_i t ht
   have := (cT.1 ht).1
   exact .ite (fun c => ⟨cA _, this⟩) fun _ => ⟨cA _, h⟩
 · exact ⟨cA _, h⟩
theorem oS (h : i <= L.length) : Gd L.length (i + 1) i (jh L i) := by
 unfold jh
 split
 · rename_i t ht
   have := (cT.1 ht).1
   exact .ite (fun c => ⟨cA _, this⟩) fun _ => ⟨cA _, h⟩
 · exact ⟨cA _, h⟩
theorem Bx {one : Nat -> PR (List Nd)} (h1 : ∀ i, i <= L.length -> Gd L.length (i + 1) i (one i)) : ∀ (f : Nat) (acc : List Nd) (i : Nat), i <= L.length -> L.length - i < f -> Gd L.length i i (n7 L one f acc i)
 | 0, acc, i, hi, hf => by omega
 | f + 1, acc, i, hi, hf => by
   unfold n7
   refine .ite (fun c => ?_) fun _ => ⟨cA _, hi⟩
   have := cG c
   refine ((h1 (i + 1) this).KW (lb' := i) (by omega)).bind fun b j h2 h3 => ?_
   exact (Bx h1 f _ j h3 (by omega)).at' (by omega) (by omega)
theorem KU {one : Nat -> PR (List Nd)} (h1 : ∀ i, i <= L.length -> Gd L.length (i + 1) i (one i)) {f : Nat} (hi : i <= L.length) (hf : L.length - i <= f) (h0 : 0 < f) : Gd L.length (i + 1) i (ux L one f i) := by
 unfold ux
 refine (h1 i hi).bind fun a j h2 h3 => ?_
 exact (Bx h1 f _ j h3 (by omega)).at' (by omega) (by omega)
theorem rk (h : i <= L.length) : Gd L.length (i + 1) i (wi L E i) := by
 unfold wi
 exact (jZ h).bind fun a j h2 h3 => ⟨h2, h3⟩
theorem Gd.step {Vq Vm : Nat} {x : PR α} {f : α -> Nat -> PR β} (h : Gd n Vq Vm x) (hb : lb <= Vm) (k : ∀ a j, Vq <= j -> j <= n -> Gd n zj lb (f a j)) : Gd n zj lb (x.bind f) := (h.KW hb).bind k
theorem DN {lev : Nat} {k : Int} (h : BG L lev i = some k) : i < L.length := by
 unfold BG at h
 repeat' (split at h)
 all_goals first
  | (cases h; done)
  | exact cG ‹_›
theorem x5 : ∀ f : Nat,
 (∀ i, i <= L.length -> 40 * (L.length - i) + 11 <= f -> Gd L.length (i + 1) i (se L E f i)) /\
 (∀ i at_ acc many, i <= L.length -> 40 * (L.length - i) + 1 <= f -> Gd L.length i i (vV L E f at_ acc many i)) /\
 (∀ i, i <= L.length -> 40 * (L.length - i) + 10 <= f -> Gd L.length (i + 1) i (bU L E f i)) /\
 (∀ i lev, i <= L.length -> lev <= 9 -> 40 * (L.length - i) + (11 - lev) <= f -> Gd L.length (i + 1) i (ji L E f lev i)) /\
 (∀ i lev left, i <= L.length -> lev <= 8 -> 40 * (L.length - i) + 1 <= f -> Gd L.length i i (rO L E f lev left i)) /\
 (∀ i, i <= L.length -> 40 * (L.length - i) + 1 <= f -> Gd L.length (i + 1) i (rj L E f i)) /\
 (∀ i acc, i <= L.length -> 40 * (L.length - i) + 1 <= f -> Gd L.length i i (nV L E f acc i)) /\
 (∀ i, i <= L.length -> 40 * (L.length - i) + 12 <= f -> Gd L.length (i + 1) i (mO L E f i)) := by
 intro f
 induction f with
 | zero => refine ⟨?_, ?_, ?_, ?_, ?_, ?_, ?_, ?_⟩ <;> intros <;> omega
 | succ f ih =>
   obtain ⟨iT, iS, iF, iO, iP, iA, iG, iR⟩ := ih
   refine ⟨?_, ?_, ?_, ?_, ?_, ?_, ?_, ?_⟩
   · intro i hi hf
     rw [se]
     refine (iF i hi (by omega)).bind fun a j h1 h2 => ?_
     exact (iS j _ _ _ h2 (by omega)).at' (by omega) (by omega)
   · intro i at_ acc many hi hf
     rw [vV]
     refine .ite (fun c => ?_) fun _ => ⟨cA _, hi⟩
     have h0 := cG c.1
     refine (iF (i + 1) (by omega) (by omega)).step (by omega) fun a j h1 h2 => ?_
     exact (iS j _ _ _ h2 (by omega)).at' (by omega) (by omega)
   · intro i hi hf
     rw [bU]
     refine .ite (fun c => ?_) fun _ => .ite (fun c => ?_) fun _ => .ite (fun c => ?_) fun _ => .ite (fun c => ?_) fun _ => .ite (fun c => ?_) fun _ => .ite (fun c => ?_) fun _ => .ite (fun c => ?_) fun _ => ?_
     · have h0 := cG c
       refine (iF (i + 1) (by omega) (by omega)).step (by omega) fun a j h1 h2 => (di h2).step (by omega) fun a j h3 h4 => (iF j (by omega) (by omega)).step (by omega) fun a j h5 h6 => (di h6).step (by omega) fun a j h7 h8 => (iF j (by omega) (by omega)).step (by omega) fun a j h9 lQ => ⟨by omega, lQ⟩
     · have h0 := cG c
       exact (iF (i + 1) (by omega) (by omega)).step (by omega) fun a j h1 h2 => (di h2).step (by omega) fun a j h3 h4 => (iF j (by omega) (by omega)).step (by omega) fun a j h5 h6 => ⟨by omega, h6⟩
     · have h0 := cG c
       exact (jZ h0).step (by omega) fun a j h1 h2 => (di h2).step (by omega) fun a j h3 h4 => (oS h4).step (by omega) fun a j h5 h6 => (di h6).step (by omega) fun a j h7 h8 => (oS h8).step (by omega) fun a j h9 lQ => (di lQ).step (by omega) fun a j sx tf => (iF j (by omega) (by omega)).step (by omega) fun a j Xo P6 => ⟨by omega, P6⟩
     · have h0 := cG c
       exact (jZ h0).step (by omega) fun a j h1 h2 => (di h2).step (by omega) fun a j h3 h4 => (iF j (by omega) (by omega)).step (by omega) fun a j h5 h6 => (di h6).step (by omega) fun a j h7 h8 => (iF j (by omega) (by omega)).step (by omega) fun a j h9 lQ => ⟨by omega, lQ⟩
     · have h0 := cG c
       exact (iF (i + 1) (by omega) (by omega)).step (by omega) fun a j h1 h2 => (di h2).step (by omega) fun a j h3 h4 => (iF j (by omega) (by omega)).step (by omega) fun a j h5 h6 => ⟨by omega, h6⟩
     · have h0 := cG c
       exact (jZ h0).step (by omega) fun a j h1 h2 => (di h2).step (by omega) fun a j h3 h4 => (oS h4).step (by omega) fun a j h5 h6 => (di h6).step (by omega) fun a j h7 h8 => (iF j (by omega) (by omega)).step (by omega) fun a j h9 lQ => ⟨by omega, lQ⟩
     · have h0 := NS c.1
       exact (jZ hi).step (by omega) fun a j h1 h2 => (di h2).step (by omega) fun a j h3 h4 => (iF j (by omega) (by omega)).step (by omega) fun a j h5 h6 => ⟨by omega, h6⟩
     · exact iO i 2 hi (by omega) (by omega)
   · intro i lev hi hl hf
     rw [ji]
     refine .ite (fun c => ?_) fun c9 => .ite (fun c => .ite (fun d => ?_) fun d => ?_) fun c4 => ?_
     · exact iA i hi (by omega)
     · have h0 := cG d
       exact (iO (i + 1) 4 (by omega) (by omega) (by omega)).step (by omega) fun a j h1 h2 => ⟨by omega, h2⟩
     · exact iO i 5 hi (by omega) (by omega)
     · refine (iO i (lev + 1) hi (by omega) (by omega)).bind fun a j h1 h2 => ?_
       exact (iP j lev a h2 (by omega) (by omega)).at' (by omega) (by omega)
   · intro i lev left hi hl hf
     rw [rO]
     split
     · exact ⟨cA _, hi⟩
     · rename_i k hk
       have h0 := DN hk
       refine .ite (fun c => ?_) fun c => ?_
       · exact (oS h0).step (by omega) fun a j h1 h2 => (iP j lev _ h2 hl (by omega)).at' (by omega) (by omega)
       · refine (iO (i + 1) (lev + 1) h0 (by omega) (by omega)).step (by omega) fun a j h1 h2 => .ite (fun _ => ⟨by omega, h2⟩) fun _ => ?_
         exact (iP j lev _ h2 hl (by omega)).at' (by omega) (by omega)
   · intro i hi hf
     rw [rj]
     refine .ite (fun c => ⟨cA _, cG c⟩) fun _ => .ite (fun c => ⟨cA _, cG c⟩) fun _ => .ite (fun c => ⟨cA _, cG c⟩) fun _ => .ite (fun c => ⟨cA _, cG c⟩) fun _ => .ite (fun c => ?_) fun _ => .ite (fun c => ?_) fun _ => .ite (fun c => ?_) fun _ => .ite (fun c => ?_) fun _ => ?_
     · have h0 := cG c
       exact (jZ h0).step (by omega) fun a j h1 h2 => ⟨by omega, h2⟩
     · have h0 := cG c
       exact (jZ h0).step (by omega) fun a j h1 h2 => ⟨by omega, h2⟩
     · have h0 := cG c
       exact (iT (i + 1) (by omega) (by omega)).step (by omega) fun a j h1 h2 => (di h2).step (by omega) fun a j h3 h4 => ⟨by omega, h4⟩
     · exact (oS hi).step (by omega) fun a j h1 h2 => ⟨by omega, h2⟩
     · refine (jZ hi).step (by omega) fun a j h1 h2 => .ite (fun c => ?_) fun _ => ⟨by omega, h2⟩
       have h0 := cG c
       exact (iR (j + 1) (by omega) (by omega)).step (by omega) fun a j h3 h4 => (iG j _ h4 (by omega)).step (by omega) fun a j h5 h6 => (di h6).step (by omega) fun a j h7 h8 => ⟨by omega, h8⟩
   · intro i acc hi hf
     rw [nV]
     refine .ite (fun c => ?_) fun _ => ⟨cA _, hi⟩
     have h0 := cG c
     exact (iR (i + 1) (by omega) (by omega)).step (by omega) fun a j h1 h2 => (iG j _ h2 (by omega)).at' (by omega) (by omega)
   · intro i hi hf
     rw [mO]
     refine .ite (fun c => ?_) fun _ => .ite (fun c => ?_) fun _ => ?_
     · have h0 := cG c
       exact (di h0).step (by omega) fun a j h1 h2 => (KU (fun i hi => rk hi) h2 (by omega) (by omega)).step (by omega) fun a j h3 h4 => (di h4).step (by omega) fun a j h5 h6 => (iF j (by omega) (by omega)).step (by omega) fun a j h7 h8 => ⟨by omega, h8⟩
     · have h0 := cG c
       exact (di h0).step (by omega) fun a j h1 h2 => (iF j (by omega) (by omega)).step (by omega) fun a j h3 h4 => (di h4).step (by omega) fun a j h5 h6 => (di h6).step (by omega) fun a j h7 h8 => (rk h8).step (by omega) fun a j h9 lQ => (di lQ).step (by omega) fun a j sx tf => (iF j (by omega) (by omega)).step (by omega) fun a j Xo P6 => (di P6).step (by omega) fun a j ZG Xp => ⟨by omega, Xp⟩
     · exact iT i hi (by omega)
end
end Go.Rip
namespace Go.Rip
def ox (t : Tk) : Prop := t.s ≠ [] /\ gN t.s = (0, t.k, t.s)
theorem qS (p : UInt8 -> Bool) : ∀ l : aW, (l.takeWhile p).takeWhile p = l.takeWhile p
 | [] => rfl
 | c :: l => by
   simp only [rV]
   cases h : p c with
   | true => simp [h, qS p l]
   | false => rfl
theorem BU : ∀ x ∈ p9, gN x = (0, 4, x) /\ x ≠ [] := by decide
theorem yC {s : aW} {k : Nat} {t : aW} (h : gN s = (0, k, t)) : ox ⟨k, t, 0⟩ /\ t <+: s := by
 have hid := qS dG s
 have tl := List.takeWhile_prefix dG (l := s)
 unfold gN at h
 simp only at h
 split at h
 · rename_i hw
   split at h
   · rename_i x hx
     simp only [iM, true_and] at h
     obtain ⟨rfl, rfl⟩ := h
     have hm := List.mem_of_find?_eq_some hx
     have hp := List.find?_some hx
     exact ⟨⟨(BU _ hm).2, (BU _ hm).1⟩, List.isPrefixOf_iff_prefix.1 hp⟩
   · simp at h
 · rename_i c r hw
   have key : ∀ {e : Int} {k : Nat}, gN (s.takeWhile dG) = (e, k, s.takeWhile dG) -> e = 0 -> ox ⟨k, s.takeWhile dG, 0⟩ /\ s.takeWhile dG <+: s := fun h1 h2 => ⟨⟨by simp [hw], by rw [h1, h2]⟩, tl⟩
   split at h
   · rename_i hd
     simp only [iM] at h
     obtain ⟨h1, rfl, rfl⟩ := h
     refine key ?_ h1
     unfold gN
     simp only [hid]
     rw [hw]
     simp only [if_pos hd]
   · rename_i hd
     split at h
     · simp at h
     · rename_i hs
       split at h
       · rename_i hk
         simp only [iM, true_and] at h
         obtain ⟨rfl, rfl⟩ := h
         refine key ?_ rfl
         unfold gN
         simp only [hid]
         rw [hw] at hk ⊢
         simp only [if_neg hd, if_neg hs, if_pos hk]
       · rename_i hk
         split at h
         · simp at h
         · rename_i hl
           simp only [iM, true_and] at h
           obtain ⟨rfl, rfl⟩ := h
           refine key ?_ rfl
           unfold gN
           simp only [hid]
           rw [hw] at hk hl ⊢
           simp only [if_neg hd, if_neg hs, if_neg hk, if_neg hl]
theorem uw : ∀ (f : Nat) (s : aW) (p : Nat) (l : List Tk) {L : List Tk}, jH f s p l = .ok L -> (∀ t ∈ l, ox t) -> l.length <= 900 -> (∀ t ∈ L, ox t) /\ L.length <= 900
 | 0, s, p, l, L, h, hl, hn => by simp only [jH, Ac.ok.injEq] at h; subst h; exact ⟨hl, hn⟩
 | f + 1, s, p, l, L, h, hl, hn => by
   simp only [jH] at h
   split at h
   · simp only [Ac.ok.injEq] at h; subst h; exact ⟨hl, hn⟩
   · split at h
     · exact uw f s _ l h hl hn
     · split at h
       · exact uw f s _ l h hl hn
       · split at h
         · cases h
         · rename_i he
           split at h
           · cases h
           · rename_i hc
             refine uw f s _ _ h (fun t ht => ?_) (by simp; omega)
             simp only [fx, kO] at ht
             rcases ht with ht | rfl
             · exact hl t ht
             · have iq : (gN _).1 = 0 := Decidable.not_not.1 he
               exact (yC (Prod.ext iq rfl)).1
theorem N2 {s : aW} {L : List Tk} (h : mv s = .ok L) : (∀ t ∈ L, ox t) /\ L.length <= 900 := by
 unfold mv at h
 split at h
 split at h
 · cases h
 · exact uw _ _ _ _ h (by simp) (by simp)
end Go.Rip
namespace Go.Rip
def gl (a : Int) (s : aW) : Int := s.foldl (fun n c => min (10 * n + ((c.toNat : Int) - 48)) 1000001) a
def vw (a : Int) (s : aW) : Int := s.foldl (fun n c => 10 * n + ((c.toNat : Int) - 48)) a
theorem jX {c : UInt8} : fA c = true ↔ 48 <= c.toNat /\ c.toNat <= 57 := by simp [fA]
theorem DJ : ∀ (s : aW) (a : Int), a <= 1000001 -> gl a s <= 1000001
 | [], a, h => h
 | c :: s, a, h => DJ s (min (10 * a + ((c.toNat : Int) - 48)) 1000001) (by omega)
theorem qK : ∀ (s : aW) (a : Int), s.all fA = true -> 0 <= a -> min a 1000001 <= gl a s
 | [], a, _, h => by simp [gl]; omega
 | c :: s, a, hd, h => by
   simp only [List.all_cons, bF] at hd
   have h1 := jX.1 hd.1
   have := qK s (min (10 * a + ((c.toNat : Int) - 48)) 1000001) hd.2 (by omega)
   have e : gl a (c :: s) = gl (min (10 * a + ((c.toNat : Int) - 48)) 1000001) s := rfl
   omega
theorem zn : ∀ (s : aW) (a : Int), s.all fA = true -> 0 <= a -> gl a s <= 1000000 -> gl a s = vw a s
 | [], a, _, _, _ => rfl
 | c :: s, a, hd, h, hl => by
   simp only [List.all_cons, bF] at hd
   have h1 := jX.1 hd.1
   have e : gl a (c :: s) = gl (min (10 * a + ((c.toNat : Int) - 48)) 1000001) s := rfl
   have e2 : vw a (c :: s) = vw (10 * a + ((c.toNat : Int) - 48)) s := rfl
   have hg := qK s (min (10 * a + ((c.toNat : Int) - 48)) 1000001) hd.2 (by omega)
   have hm : min (10 * a + ((c.toNat : Int) - 48)) 1000001 = 10 * a + ((c.toNat : Int) - 48) := by omega
   rw [hm] at e
   rw [e, e2]
   exact zn s _ hd.2 (by omega) (by omega)
theorem BB : ∀ (s : aW) (a : Int), s.all fA = true -> 1 <= a -> gl a s <= 1000000 -> 10 ^ s.length * a <= gl a s
 | [], a, _, _, _ => by simp [gl]
 | c :: s, a, hd, h, hl => by
   simp only [List.all_cons, bF] at hd
   have h1 := jX.1 hd.1
   have e : gl a (c :: s) = gl (min (10 * a + ((c.toNat : Int) - 48)) 1000001) s := rfl
   have hg := qK s (min (10 * a + ((c.toNat : Int) - 48)) 1000001) hd.2 (by omega)
   have hm : min (10 * a + ((c.toNat : Int) - 48)) 1000001 = 10 * a + ((c.toNat : Int) - 48) := by omega
   rw [hm] at e
   rw [e] at hl ⊢
   have := BB s _ hd.2 (by omega) hl
   have hp : (0 : Int) < 10 ^ s.length := Int.pow_pos (by omega)
   have : 10 ^ s.length * (10 * a) <= 10 ^ s.length * (10 * a + ((c.toNat : Int) - 48)) := Int.mul_le_mul_of_nonneg_left (by omega) (by omega)
   rw [mB, Int.pow_succ, Int.mul_assoc]
   omega
theorem DI {s : aW} (h : lG s = 0) : s.all fA = true /\ ¬ (1 < s.length /\ s.head? = some 48) /\ BC s <= 1000000 := by
 unfold lG at h
 split at h
 · cases h
 · rename_i h1
   split at h
   · cases h
   · rename_i h2
     split at h
     · cases h
     · rename_i h3; exact ⟨by simpa using h1, h2, by omega⟩
theorem Hp {s : aW} (h0 : s ≠ []) (h : lG s = 0) : 1 <= s.length /\ s.length <= 7 /\ BC s = rp s /\ 0 <= rp s /\ rp s <= 1000000 := by
 obtain ⟨h1, h2, h3⟩ := DI h
 have hv : BC s = gl 0 s := rfl
 have hd : rp s = vw 0 s := rfl
 have e := zn s 0 h1 (by omega) (by omega)
 have hg := qK s 0 h1 (by omega)
 refine ⟨?_, ?_, by omega, by omega, by omega⟩
 · cases s with
   | nil => exact absurd rfl h0
   | cons c s => simp
 · cases s with
   | nil => simp
   | cons c s =>
     simp only [List.all_cons, bF] at h1
     have hc := jX.1 h1.1
     rcases ga s.length 1 with hl | hl
     · simp; omega
     · have XG : c ≠ 48 := fun e => h2 ⟨by simp; omega, by simp [e]⟩
       have tg : c.toNat ≠ 48 := fun e => XG (by apply UInt8.toNat_inj.1; simpa using e)
       have e1 : gl 0 (c :: s) = gl ((c.toNat : Int) - 48) s := by
        show gl (min (10 * 0 + ((c.toNat : Int) - 48)) 1000001) s = _
        congr 1; omega
       have hlen := BB s ((c.toNat : Int) - 48) h1.2 (by omega) (by omega)
       rcases ga s.length 7 with hl | hl
       · simp; omega
       · exfalso
         have h7 : (10 : Int) ^ 7 <= 10 ^ s.length := by
          have := Nat.pow_le_pow_right (n := 10) (by omega) hl
          exact_mod_cast this
         have : (10 : Int) ^ s.length * 1 <= 10 ^ s.length * ((c.toNat : Int) - 48) := Int.mul_le_mul_of_nonneg_left (by omega) (by omega)
         omega
theorem LL {s : aW} (h : gN s = (0, 2, s)) (h0 : s ≠ []) : lG s = 0 := by
 unfold gN at h
 simp only at h
 split at h
 · split at h <;> simp at h
 · rename_i c r hw
   split at h
   · simp only [iM, true_and] at h
     rw [h.2] at h; exact h.1
   · split at h
     · simp at h
     · split at h
       · simp at h
       · split at h <;> simp at h
theorem N9 {t : Tk} (h : ox t) (hk : t.k = 2) : lG t.s = 0 := LL (by rw [h.2, hk]) h.1
theorem uK : ∀ (s : aW) (a : Nat), s.all fA = true -> ∃ m, Lib.decFrom a s = some m /\ (m : Int) = vw a s
 | [], a, _ => ⟨a, rfl, rfl⟩
 | c :: s, a, h => by
   simp only [List.all_cons, bF] at h
   have hc := jX.1 h.1
   obtain ⟨m, h1, h2⟩ := uK s (a * 10 + (c.toNat - 48)) h.2
   refine ⟨m, ?_, ?_⟩
   · simp only [Lib.decFrom, Lib.digitVal, if_pos hc]; exact h1
   · rw [h2]
     show vw _ s = vw (10 * (a : Int) + ((c.toNat : Int) - 48)) s
     congr 1; omega
theorem JY {s : aW} (h0 : s ≠ []) (h : s.all fA = true) : Lib.atoi s = some (rp s) := by
 cases s with
 | nil => exact absurd rfl h0
 | cons c s =>
   have h' := h
   simp only [List.all_cons, bF] at h'
   have hc := jX.1 h'.1
   obtain ⟨m, h1, h2⟩ := uK (c :: s) 0 h
   have Xi : (c == 45) = false := by simp; rintro rfl; simp at hc
   have Xh : (c == 43) = false := by simp; rintro rfl; simp at hc
   simp only [Lib.atoi, Xi, Xh, bl, if_false, Lib.decNat, List.isEmpty_cons, h1, Option.map_some, fy]
   exact h2
end Go.Rip
namespace Go.Rip
theorem ua {s : aW} {k : Nat} {t : aW} (h : gN s = (0, k, t)) : (k = 1 /\ t ∉ mQ /\ t.length <= 12 /\ (∃ c r, t = c :: r /\ nh c = true) /\ t.all dG = true) \/ (k = 2 /\ ∃ c r, t = c :: r /\ fA c = true) \/ (k = 3 /\ t ∈ mQ) \/ (k = 4 /\ t ∈ p9) := by
 have bw : (s.takeWhile dG).all dG = true := by
  rw [dU]; intro x hx
  have : ∀ l : aW, x ∈ l.takeWhile dG -> dG x = true := fun l => by
   induction l with
   | nil => simp
   | cons c l ih =>
     simp only [rV]
     split
     · rename_i hc
       intro h
       rcases dD.1 h with rfl | h
       · exact hc
       · exact ih h
     · simp
  exact this s hx
 unfold gN at h
 simp only at h
 split at h
 · split at h
   · rename_i x hx
     simp only [iM, true_and] at h
     obtain ⟨rfl, rfl⟩ := h
     exact .inr (.inr (.inr ⟨rfl, List.mem_of_find?_eq_some hx⟩))
   · simp at h
 · rename_i c r hw
   split at h
   · rename_i hd
     simp only [iM] at h
     obtain ⟨h1, rfl, rfl⟩ := h
     exact .inr (.inl ⟨rfl, c, r, hw, hd⟩)
   · split at h
     · simp at h
     · rename_i hs
       split at h
       · rename_i hk
         simp only [iM, true_and] at h
         obtain ⟨rfl, rfl⟩ := h
         exact .inr (.inr (.inl ⟨rfl, hk⟩))
       · rename_i hk
         split at h
         · simp at h
         · rename_i hl
           simp only [iM, true_and] at h
           obtain ⟨rfl, rfl⟩ := h
           exact .inl ⟨rfl, hk, by omega, ⟨c, r, hw, by simpa using hs⟩, bw⟩
theorem ox.cases {t : Tk} (h : ox t) : (t.k = 1 /\ t.s ∉ mQ) \/ t.k = 2 \/ (t.k = 3 /\ t.s ∈ mQ) \/ (t.k = 4 /\ t.s ∈ p9) := by
 rcases ua h.2 with h | h | h | h
 · exact .inl ⟨h.1, h.2.1⟩
 · exact .inr (.inl h.1)
 · exact .inr (.inr (.inl h))
 · exact .inr (.inr (.inr h))
theorem EP : ∀ w ∈ mQ, w ∉ p9 := by decide
theorem G2 {L : List Tk} {i : Nat} {w : aW} (h : bW L i w = true) : ∃ t, L[i]? = some t /\ (t.k = 3 \/ t.k = 4) /\ t.s = w := by
 unfold bW at h
 split at h
 · rename_i t ht
   simp only [bF, gM, beq_iff_eq] at h
   exact ⟨t, ht, h.1, h.2⟩
 · cases h
theorem NU {L : List Tk} {i : Nat} {w : aW} {t : Tk} (ht : L[i]? = some t) (hk : t.k = 3 \/ t.k = 4) (hs : t.s = w) : bW L i w = true := by
 unfold bW; rw [ht]; simp [hs, hk]
theorem NT {L : List Tk} (hL : ∀ t ∈ L, ox t) {i : Nat} {w : aW} (hw : w ∈ mQ) (h : bW L i w = true) : ∃ t, L[i]? = some t /\ t.k = 3 /\ t.s = w := by
 obtain ⟨t, ht, hk, hs⟩ := G2 h
 refine ⟨t, ht, ?_, hs⟩
 rcases hk with hk | hk
 · exact hk
 · rcases (hL t (fw ht)).cases with h | h | h | h
   · omega
   · omega
   · omega
   · rw [hs] at h; exact absurd h.2 (EP w hw)
def mV (o : Option Tk) : aW := match o with | some t => if t.k = 3 \/ t.k = 4 then t.s else [] | none => []
theorem zd {L : List Tk} {i : Nat} {w : aW} (hw : w ≠ []) : bW L i w = decide (mV L[i]? = w) := by
 unfold bW mV
 split
 · rename_i t ht
   by_cases h : t.k = 3 \/ t.k = 4
   · by_cases hs : t.s = w <;> simp [ht, h, hs]
   · have h3 : ¬ t.k = 3 := fun e => h (.inl e)
     have h4 : ¬ t.k = 4 := fun e => h (.inr e)
     simp [ht, h3, h4, Ne.symm hw]
 · rename_i ht; simp [ht, Ne.symm hw]
end Go.Rip
