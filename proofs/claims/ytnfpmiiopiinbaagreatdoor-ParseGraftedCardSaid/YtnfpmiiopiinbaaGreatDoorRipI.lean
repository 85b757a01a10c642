/- Lemmas for the proof: no conditions. -/
import Derived.Test.YtnfpmiiopiinbaaGreatDoorRipZz
import Derived.Test.YtnfpmiiopiinbaaGreatDoorRipD
import Derived.Lib.Atoi
set_option linter.unusedVariables false
set_option linter.unusedSimpArgs false
set_option linter.loopingSimpArgs false
namespace Go.Rip
abbrev aZ := List UInt8
structure Tk where
 k : Nat
 s : aZ
 at_ : Nat
 deriving DecidableEq
structure Nd where
 kind : Int
 text : aZ
 n : Int
 m : Int
 at_ : Int
 size : Int
 deriving DecidableEq
def fN (c : UInt8) : Bool := decide (48 <= c.toNat /\ c.toNat <= 57)
def nU (c : UInt8) : Bool := decide (97 <= c.toNat /\ c.toNat <= 122)
def F9 (c : UInt8) : Bool := decide (65 <= c.toNat /\ c.toNat <= 90)
def dX (c : UInt8) : Bool := fN c || nU c || F9 c
def mP (c : UInt8) : Bool := decide (c.toNat = 10 \/ 32 <= c.toNat /\ c.toNat <= 126)
def CL (s : aZ) : Int := s.foldl (fun n c => min (10 * n + ((c.toNat : Int) - 48)) 1000001) 0
def sj (s : aZ) : Int := s.foldl (fun n c => 10 * n + ((c.toNat : Int) - 48)) 0
def l8 (s : aZ) : Int := if s.all fN = false then 4 else if 1 < s.length /\ s.head? = some 48 then 4 else if 1000000 < CL s then 3 else 0
def nE : List aZ := [Bf, G8, Uq, Ur, pT, We, vL, Dl, kT, nO, fV, Ha, Hb, kU, zG, nP, ri, Wf, nk, rZ, yK, Hd, pV, Zd, He, Hf, jo, vb, fH, o9]
def qW : List aZ := [cN, iK, yH, yG, yC, yE, yB, o3, o4, qA, yI, Be, yD, ti, yF, Bd]
def ia (s : aZ) : Int × Nat × aZ :=
 let w := s.takeWhile dX
 match w with
 | [] => match qW.find? fun x => x.isPrefixOf s with
   | some x => (0, 4, x)
   | none => (4, 0, [])
 | c :: _ => if fN c then (l8 w, 2, w) else if nU c = false then (4, 0, []) else if w ∈ nE then (0, 3, w) else if 12 < w.length then (4, 0, []) else (0, 1, w)
inductive Bl where
 | ok (l : List Tk)
 | bad (p : Nat) (e : Int)
def j9 : Nat -> aZ -> Nat -> List Tk -> Bl
 | 0, _, _, l => .ok l
 | f + 1, s, p, l => match s.drop p with
   | [] => .ok l
   | c :: r => if c.toNat = 32 \/ c.toNat = 10 then j9 f s (p + 1) l
     else if c.toNat = 126 then j9 f s (p + ((c :: r).takeWhile fun c => c.toNat ≠ 10).length) l
     else match ia (c :: r) with
      | (e, k, t) => if e ≠ 0 then .bad p e else if l.length = 900 then .bad p 5 else j9 f s (p + t.length) (l ++ [⟨k, t, p⟩])
def qG (s : aZ) : Nat × Int := if 2500 < s.length then (0, 5) else match s.findIdx? (fun c => !mP c) with | some i => (i, 2) | none => (0, 0)
def mS (s : aZ) : Bl := match qG s with
 | (p, e) => if e ≠ 0 then .bad p e else j9 s.length s 0 []
inductive PR (α : Type) where
 | ok (a : α) (i : Nat)
 | bad (i : Nat)
 | out
def PR.bind {α β : Type} (x : PR α) (f : α -> Nat -> PR β) : PR β := match x with
 | .ok a i => f a i
 | .bad i => .bad i
 | .out => .out
def node (kind : Int) (text : aZ) (n m at_ : Int) (kids : List Nd) : List Nd := ⟨kind, text, n, m, at_, (kids.length : Int) + 1⟩ :: kids
section
variable (L : List Tk) (E : Nat)
def ef (i : Nat) : Int := match L[i]? with | some t => t.at_ | none => E
def cr (i : Nat) (w : aZ) : Bool := match L[i]? with | some t => (t.k == 3 || t.k == 4) && t.s == w | none => false
def qM (i : Nat) (k : Nat) : Bool := match L[i]? with | some t => t.k == k | none => false
def Cw (i : Nat) : Bool := cr L i nP || cr L i vL || cr L i nO
def cx (w : aZ) (i : Nat) : PR Unit := if cr L i w = true then .ok () (i + 1) else .bad i
def hU (i : Nat) : PR aZ := match L[i]? with | some t => if t.k = 1 then .ok t.s (i + 1) else .bad i | none => .bad i
def jB (i : Nat) : PR Int := match L[i]? with | some t => if t.k = 2 then .ok (sj t.s) (i + 1) else .bad i | none => .bad i
def oX (one : Nat -> PR (List Nd)) : Nat -> List Nd -> Nat -> PR (List Nd)
 | 0, _, _ => .out
 | f + 1, acc, i => if cr L i yD = true then (one (i + 1)).bind fun b j => oX one f (acc ++ b) j else .ok acc i
def vC (one : Nat -> PR (List Nd)) (f : Nat) (i : Nat) : PR (List Nd) := (one i).bind fun a j => oX L one f a j
def xw (i : Nat) : PR (List Nd) := (hU L i).bind fun x j => .ok (node 37 x 0 0 (ef L E i) []) j
def CP (lev : Nat) (i : Nat) : Option Int :=
 if lev = 2 then if cr L i He = true then some 17 else none
 else if lev = 3 then if cr L i Bf = true then some 18 else none
 else if lev = 5 then if cr L i yH = true then some 20 else if cr L i yG = true then some 21 else none
 else if lev = 6 then if cr L i yC = true then some 22 else if cr L i yE = true then some 23 else none
 else if lev = 7 then if cr L i yB = true then some 24 else none
 else if lev = 8 then if cr L i G8 = true then some 25 else none
 else none
mutual
def tc : Nat -> Nat -> PR (List Nd)
 | 0, _ => .out
 | f + 1, i => (cg f i).bind fun a j => xl f (ef L E j) a 1 j
def xl : Nat -> Int -> List Nd -> Nat -> Nat -> PR (List Nd)
 | 0, _, _, _, _ => .out
 | f + 1, at_, acc, many, i => if cr L i ti = true /\ i + 1 < L.length /\ Cw L (i + 1) = false then (cg f (i + 1)).bind fun b j => xl f at_ (acc ++ b) (many + 1) j
   else .ok (if many = 1 then acc else node 9 [] 0 0 at_ acc) i
def cg : Nat -> Nat -> PR (List Nd)
 | 0, _ => .out
 | f + 1, i =>
   if cr L i zG = true then (cg f (i + 1)).bind fun c j => (cx L vb j).bind fun _ j => (cg f j).bind fun a j => (cx L kT j).bind fun _ j => (cg f j).bind fun b j => .ok (node 10 [] 0 0 (ef L E i) (c ++ a ++ b)) j
   else if cr L i o9 = true then (cg f (i + 1)).bind fun a j => (cx L Dl j).bind fun _ j => (cg f j).bind fun b j => .ok (node 11 [] 0 0 (ef L E i) (a ++ b)) j
   else if cr L i yK = true then (hU L (i + 1)).bind fun x j => (cx L yF j).bind fun _ j => (jB L j).bind fun n j => (cx L cN j).bind fun _ j => (jB L j).bind fun m j => (cx L ri j).bind fun _ j => (cg f j).bind fun a j => .ok (node 12 x n m (ef L E i) a) j
   else if cr L i rZ = true then (hU L (i + 1)).bind fun x j => (cx L ri j).bind fun _ j => (cg f j).bind fun a j => (cx L kT j).bind fun _ j => (cg f j).bind fun b j => .ok (node 13 x 0 0 (ef L E i) (a ++ b)) j
   else if cr L i pT = true then (cg f (i + 1)).bind fun a j => (cx L kT j).bind fun _ j => (cg f j).bind fun b j => .ok (node 15 [] 0 0 (ef L E i) (a ++ b)) j
   else if cr L i pV = true then (hU L (i + 1)).bind fun x j => (cx L cN j).bind fun _ j => (jB L j).bind fun n j => (cx L ri j).bind fun _ j => (cg f j).bind fun a j => .ok (node 14 x n 0 (ef L E i) a) j
   else if qM L i 1 = true /\ cr L (i + 1) cN = true then (hU L i).bind fun x j => (cx L cN j).bind fun _ j => (cg f j).bind fun a j => .ok (node 16 x 0 0 (ef L E i) a) j
   else jC f 2 i
def jC : Nat -> Nat -> Nat -> PR (List Nd)
 | 0, _, _ => .out
 | f + 1, lev, i =>
   if lev = 9 then sf f i
   else if lev = 4 then if cr L i Hd = true then (jC f 4 (i + 1)).bind fun a j => .ok (node 19 [] 0 0 (ef L E i) a) j else jC f 5 i
   else (jC f (lev + 1) i).bind fun a j => sL f lev a j
def sL : Nat -> Nat -> List Nd -> Nat -> PR (List Nd)
 | 0, _, _, _ => .out
 | f + 1, lev, left, i => match CP L lev i with
   | none => .ok left i
   | some kind => if lev = 8 then (jB L (i + 1)).bind fun n j => sL f lev (node kind [] n 0 (ef L E i) left) j
     else (jC f (lev + 1) (i + 1)).bind fun b j => if lev = 5 then .ok (node kind [] 0 0 (ef L E i) (left ++ b)) j else sL f lev (node kind [] 0 0 (ef L E i) (left ++ b)) j
def sf : Nat -> Nat -> PR (List Nd)
 | 0, _ => .out
 | f + 1, i =>
   if cr L i fH = true then .ok (node 27 [] 0 0 (ef L E i) []) (i + 1)
   else if cr L i fV = true then .ok (node 28 [] 0 0 (ef L E i) []) (i + 1)
   else if cr L i jo = true then .ok (node 29 [] 0 0 (ef L E i) []) (i + 1)
   else if cr L i kU = true then .ok (node 30 [] 0 0 (ef L E i) []) (i + 1)
   else if cr L i nk = true then (hU L (i + 1)).bind fun x j => .ok (node 31 x 0 0 (ef L E i) []) j
   else if cr L i o3 = true then (hU L (i + 1)).bind fun x j => .ok (node 32 x 0 0 (ef L E i) []) j
   else if cr L i o4 = true then (tc f (i + 1)).bind fun a j => (cx L qA j).bind fun _ j => .ok a j
   else if qM L i 2 = true then (jB L i).bind fun n j => .ok (node 26 [] n 0 (ef L E i) []) j
   else (hU L i).bind fun x j => if cr L j o4 = true then (nB f (j + 1)).bind fun a j => (oO f a j).bind fun a j => (cx L qA j).bind fun _ j => .ok (node 34 x 0 0 (ef L E i) a) j
    else .ok (node 33 x 0 0 (ef L E i) []) j
def oO : Nat -> List Nd -> Nat -> PR (List Nd)
 | 0, _, _ => .out
 | f + 1, acc, i => if cr L i yD = true then (nB f (i + 1)).bind fun b j => oO f (acc ++ b) j else .ok acc i
def nB : Nat -> Nat -> PR (List Nd)
 | 0, _ => .out
 | f + 1, i =>
   if cr L i Ha = true then (cx L o4 (i + 1)).bind fun _ j => (vC L (xw L E) (L.length + 1) j).bind fun a j => (cx L qA j).bind fun _ j => (cg f j).bind fun b j => .ok (node 35 [] 0 0 (ef L E i) (a ++ b)) j
   else if cr L i yI = true then (cx L Hb (i + 1)).bind fun _ j => (cg f j).bind fun a j => (cx L ti j).bind fun _ j => (cx L Hf j).bind fun _ j => (xw L E j).bind fun b j => (cx L Bd j).bind fun _ j => (cg f j).bind fun c j => (cx L Be j).bind fun _ j => .ok (node 36 [] 0 0 (ef L E i) (a ++ b ++ c)) j
   else tc f i
end
def fuel : Nat := 40 * (L.length + 2)
end
end Go.Rip
namespace Go.Rip
def Gd {α : Type} (n lo lb : Nat) : PR α -> Prop
 | .ok _ j => lo <= j /\ j <= n
 | .bad j => lb <= j /\ j <= n
 | .out => False
section
variable {α β : Type} {n lo Ar lb i : Nat} {L : List Tk} {E : Nat}
theorem Gd.bind {x : PR α} {f : α -> Nat -> PR β} (h : Gd n lo lb x) (k : ∀ a j, lo <= j -> j <= n -> Gd n Ar lb (f a j)) : Gd n Ar lb (x.bind f) := by
 cases x with
 | ok a j => exact k a j h.1 h.2
 | bad j => exact h
 | out => exact h.elim
theorem Gd.ite {c : Prop} [Decidable c] {x y : PR α} (h : c -> Gd n lo lb x) (k : ¬ c -> Gd n lo lb y) : Gd n lo lb (if c then x else y) := by
 split
 · exact h ‹_›
 · exact k ‹_›
theorem Gd.low {x : PR α} (h : Gd n lo lb x) (k : Ar <= lo) : Gd n Ar lb x := by
 cases x with
 | ok a j => exact ⟨Nat.le_trans k h.1, h.2⟩
 | bad j => exact h
 | out => exact h
theorem Gd.Mj {lb' : Nat} {x : PR α} (h : Gd n lo lb x) (k : lb' <= lb) : Gd n lo lb' x := by
 cases x with
 | ok a j => exact h
 | bad j => exact ⟨Nat.le_trans k h.1, h.2⟩
 | out => exact h
theorem Gd.at' {lb' : Nat} {x : PR α} (h : Gd n lo lb x) (k : Ar <= lo) (k' : lb' <= lb) : Gd n Ar lb' x := (h.low k).Mj k'
theorem cU {w : aZ} (h : cr L i w = true) : i < L.length := by
 unfold cr at h
 split at h
 · rename_i t ht; exact (dx.1 ht).1
 · cases h
theorem PB {k : Nat} (h : qM L i k = true) : i < L.length := by
 unfold qM at h
 split at h
 · rename_i t ht; exact (dx.1 ht).1
 · cases h
theorem dC {w : aZ} (h : i <= L.length) : Gd L.length (i + 1) i (cx L w i) := by
 unfold cx
 exact .ite (fun c => ⟨cG _, cU c⟩) fun _ => ⟨cG _, h⟩
theorem kI (h : i <= L.length) : Gd L.length (i + 1) i (hU L i) := by
 unfold hU
 split
 · rename_i t ht
   have := (dx.1 ht).1
   exact .ite (fun c => ⟨cG _, this⟩) fun _ => ⟨cG _, h⟩
 · exact ⟨cG _, h⟩
theorem pG (h : i <= L.length) : Gd L.length (i + 1) i (jB L i) := by
 unfold jB
 split
 · rename_i t ht
   have := (dx.1 ht).1
   exact .ite (fun c => ⟨cG _, this⟩) fun _ => ⟨cG _, h⟩
 · exact ⟨cG _, h⟩
theorem CG {one : Nat -> PR (List Nd)} (h1 : ∀ i, i <= L.length -> Gd L.length (i + 1) i (one i)) : ∀ (f : Nat) (acc : List Nd) (i : Nat), i <= L.length -> L.length - i < f -> Gd L.length i i (oX L one f acc i)
 | 0, acc, i, hi, hf => by omega
 | f + 1, acc, i, hi, hf => by
   unfold oX
   refine .ite (fun c => ?_) fun _ => ⟨cG _, hi⟩
   have := cU c
   refine ((h1 (i + 1) this).Mj (lb' := i) (by omega)).bind fun b j h2 h3 => ?_
   exact (CG h1 f _ j h3 (by omega)).at' (by omega) (by omega)
theorem Mh {one : Nat -> PR (List Nd)} (h1 : ∀ i, i <= L.length -> Gd L.length (i + 1) i (one i)) {f : Nat} (hi : i <= L.length) (hf : L.length - i <= f) (h0 : 0 < f) : Gd L.length (i + 1) i (vC L one f i) := by
 unfold vC
 refine (h1 i hi).bind fun a j h2 h3 => ?_
 exact (CG h1 f _ j h3 (by omega)).at' (by omega) (by omega)
theorem sg (h : i <= L.length) : Gd L.length (i + 1) i (xw L E i) := by
 unfold xw
 exact (kI h).bind fun a j h2 h3 => ⟨h2, h3⟩
theorem Gd.step {Xj Xf : Nat} {x : PR α} {f : α -> Nat -> PR β} (h : Gd n Xj Xf x) (hb : lb <= Xf) (k : ∀ a j, Xj <= j -> j <= n -> Gd n Ar lb (f a j)) : Gd n Ar lb (x.bind f) := (h.Mj hb).bind k
theorem EW {lev : Nat} {k : Int} (h : CP L lev i = some k) : i < L.length := by
 unfold CP at h
 repeat' (split at h)
 all_goals first
  | (cases h; done)
  | exact cU ‹_›
theorem y9 : ∀ f : Nat,
 (∀ i, i <= L.length -> 40 * (L.length - i) + 11 <= f -> Gd L.length (i + 1) i (tc L E f i)) /\
 (∀ i at_ acc many, i <= L.length -> 40 * (L.length - i) + 1 <= f -> Gd L.length i i (xl L E f at_ acc many i)) /\
 (∀ i, i <= L.length -> 40 * (L.length - i) + 10 <= f -> Gd L.length (i + 1) i (cg L E f i)) /\
 (∀ i lev, i <= L.length -> lev <= 9 -> 40 * (L.length - i) + (11 - lev) <= f -> Gd L.length (i + 1) i (jC L E f lev i)) /\
 (∀ i lev left, i <= L.length -> lev <= 8 -> 40 * (L.length - i) + 1 <= f -> Gd L.length i i (sL L E f lev left i)) /\
 (∀ i, i <= L.length -> 40 * (L.length - i) + 1 <= f -> Gd L.length (i + 1) i (sf L E f i)) /\
 (∀ i acc, i <= L.length -> 40 * (L.length - i) + 1 <= f -> Gd L.length i i (oO L E f acc i)) /\
 (∀ i, i <= L.length -> 40 * (L.length - i) + 12 <= f -> Gd L.length (i + 1) i (nB L E f i)) := by
 intro f
 induction f with
 | zero => refine ⟨?_, ?_, ?_, ?_, ?_, ?_, ?_, ?_⟩ <;> intros <;> omega
 | succ f ih =>
   obtain ⟨iT, iS, iF, iO, iP, iA, iG, iR⟩ := ih
   refine ⟨?_, ?_, ?_, ?_, ?_, ?_, ?_, ?_⟩
   · intro i hi hf
     rw [tc]
     refine (iF i hi (by omega)).bind fun a j h1 h2 => ?_
     exact (iS j _ _ _ h2 (by omega)).at' (by omega) (by omega)
   · intro i at_ acc many hi hf
     rw [xl]
     refine .ite (fun c => ?_) fun _ => ⟨cG _, hi⟩
     have h0 := cU c.1
     refine (iF (i + 1) (by omega) (by omega)).step (by omega) fun a j h1 h2 => ?_
     exact (iS j _ _ _ h2 (by omega)).at' (by omega) (by omega)
   · intro i hi hf
     rw [cg]
     refine .ite (fun c => ?_) fun _ => .ite (fun c => ?_) fun _ => .ite (fun c => ?_) fun _ => .ite (fun c => ?_) fun _ => .ite (fun c => ?_) fun _ => .ite (fun c => ?_) fun _ => .ite (fun c => ?_) fun _ => ?_
     · have h0 := cU c
       refine (iF (i + 1) (by omega) (by omega)).step (by omega) fun a j h1 h2 => (dC h2).step (by omega) fun a j h3 h4 => (iF j (by omega) (by omega)).step (by omega) fun a j h5 h6 => (dC h6).step (by omega) fun a j h7 h8 => (iF j (by omega) (by omega)).step (by omega) fun a j h9 mr => ⟨by omega, mr⟩
     · have h0 := cU c
       exact (iF (i + 1) (by omega) (by omega)).step (by omega) fun a j h1 h2 => (dC h2).step (by omega) fun a j h3 h4 => (iF j (by omega) (by omega)).step (by omega) fun a j h5 h6 => ⟨by omega, h6⟩
     · have h0 := cU c
       exact (kI h0).step (by omega) fun a j h1 h2 => (dC h2).step (by omega) fun a j h3 h4 => (pG h4).step (by omega) fun a j h5 h6 => (dC h6).step (by omega) fun a j h7 h8 => (pG h8).step (by omega) fun a j h9 mr => (dC mr).step (by omega) fun a j tz uk => (iF j (by omega) (by omega)).step (by omega) fun a j Zy RJ => ⟨by omega, RJ⟩
     · have h0 := cU c
       exact (kI h0).step (by omega) fun a j h1 h2 => (dC h2).step (by omega) fun a j h3 h4 => (iF j (by omega) (by omega)).step (by omega) fun a j h5 h6 => (dC h6).step (by omega) fun a j h7 h8 => (iF j (by omega) (by omega)).step (by omega) fun a j h9 mr => ⟨by omega, mr⟩
     · have h0 := cU c
       exact (iF (i + 1) (by omega) (by omega)).step (by omega) fun a j h1 h2 => (dC h2).step (by omega) fun a j h3 h4 => (iF j (by omega) (by omega)).step (by omega) fun a j h5 h6 => ⟨by omega, h6⟩
     · have h0 := cU c
       exact (kI h0).step (by omega) fun a j h1 h2 => (dC h2).step (by omega) fun a j h3 h4 => (pG h4).step (by omega) fun a j h5 h6 => (dC h6).step (by omega) fun a j h7 h8 => (iF j (by omega) (by omega)).step (by omega) fun a j h9 mr => ⟨by omega, mr⟩
     · have h0 := PB c.1
       exact (kI hi).step (by omega) fun a j h1 h2 => (dC h2).step (by omega) fun a j h3 h4 => (iF j (by omega) (by omega)).step (by omega) fun a j h5 h6 => ⟨by omega, h6⟩
     · exact iO i 2 hi (by omega) (by omega)
   · intro i lev hi hl hf
     rw [jC]
     refine .ite (fun c => ?_) fun c9 => .ite (fun c => .ite (fun d => ?_) fun d => ?_) fun c4 => ?_
     · exact iA i hi (by omega)
     · have h0 := cU d
       exact (iO (i + 1) 4 (by omega) (by omega) (by omega)).step (by omega) fun a j h1 h2 => ⟨by omega, h2⟩
     · exact iO i 5 hi (by omega) (by omega)
     · refine (iO i (lev + 1) hi (by omega) (by omega)).bind fun a j h1 h2 => ?_
       exact (iP j lev a h2 (by omega) (by omega)).at' (by omega) (by omega)
   · intro i lev left hi hl hf
     rw [sL]
     split
     · exact ⟨cG _, hi⟩
     · rename_i k hk
       have h0 := EW hk
       refine .ite (fun c => ?_) fun c => ?_
       · exact (pG h0).step (by omega) fun a j h1 h2 => (iP j lev _ h2 hl (by omega)).at' (by omega) (by omega)
       · refine (iO (i + 1) (lev + 1) h0 (by omega) (by omega)).step (by omega) fun a j h1 h2 => .ite (fun _ => ⟨by omega, h2⟩) fun _ => ?_
         exact (iP j lev _ h2 hl (by omega)).at' (by omega) (by omega)
   · intro i hi hf
     rw [sf]
     refine .ite (fun c => ⟨cG _, cU c⟩) fun _ => .ite (fun c => ⟨cG _, cU c⟩) fun _ => .ite (fun c => ⟨cG _, cU c⟩) fun _ => .ite (fun c => ⟨cG _, cU c⟩) fun _ => .ite (fun c => ?_) fun _ => .ite (fun c => ?_) fun _ => .ite (fun c => ?_) fun _ => .ite (fun c => ?_) fun _ => ?_
     · have h0 := cU c
       exact (kI h0).step (by omega) fun a j h1 h2 => ⟨by omega, h2⟩
     · have h0 := cU c
       exact (kI h0).step (by omega) fun a j h1 h2 => ⟨by omega, h2⟩
     · have h0 := cU c
       exact (iT (i + 1) (by omega) (by omega)).step (by omega) fun a j h1 h2 => (dC h2).step (by omega) fun a j h3 h4 => ⟨by omega, h4⟩
     · exact (pG hi).step (by omega) fun a j h1 h2 => ⟨by omega, h2⟩
     · refine (kI hi).step (by omega) fun a j h1 h2 => .ite (fun c => ?_) fun _ => ⟨by omega, h2⟩
       have h0 := cU c
       exact (iR (j + 1) (by omega) (by omega)).step (by omega) fun a j h3 h4 => (iG j _ h4 (by omega)).step (by omega) fun a j h5 h6 => (dC h6).step (by omega) fun a j h7 h8 => ⟨by omega, h8⟩
   · intro i acc hi hf
     rw [oO]
     refine .ite (fun c => ?_) fun _ => ⟨cG _, hi⟩
     have h0 := cU c
     exact (iR (i + 1) (by omega) (by omega)).step (by omega) fun a j h1 h2 => (iG j _ h2 (by omega)).at' (by omega) (by omega)
   · intro i hi hf
     rw [nB]
     refine .ite (fun c => ?_) fun _ => .ite (fun c => ?_) fun _ => ?_
     · have h0 := cU c
       exact (dC h0).step (by omega) fun a j h1 h2 => (Mh (fun i hi => sg hi) h2 (by omega) (by omega)).step (by omega) fun a j h3 h4 => (dC h4).step (by omega) fun a j h5 h6 => (iF j (by omega) (by omega)).step (by omega) fun a j h7 h8 => ⟨by omega, h8⟩
     · have h0 := cU c
       exact (dC h0).step (by omega) fun a j h1 h2 => (iF j (by omega) (by omega)).step (by omega) fun a j h3 h4 => (dC h4).step (by omega) fun a j h5 h6 => (dC h6).step (by omega) fun a j h7 h8 => (sg h8).step (by omega) fun a j h9 mr => (dC mr).step (by omega) fun a j tz uk => (iF j (by omega) (by omega)).step (by omega) fun a j Zy RJ => (dC RJ).step (by omega) fun a j h15 Zz => ⟨by omega, Zz⟩
     · exact iT i hi (by omega)
end
end Go.Rip
namespace Go.Rip
def pb (t : Tk) : Prop := t.s ≠ [] /\ ia t.s = (0, t.k, t.s)
theorem rW (p : UInt8 -> Bool) : ∀ l : aZ, (l.takeWhile p).takeWhile p = l.takeWhile p
 | [] => rfl
 | c :: l => by
   simp only [sV]
   cases h : p c with
   | true => simp [h, rW p l]
   | false => rfl
theorem C0 : ∀ x ∈ qW, ia x = (0, 4, x) /\ x ≠ [] := by decide
theorem zC {s : aZ} {k : Nat} {t : aZ} (h : ia s = (0, k, t)) : pb ⟨k, t, 0⟩ /\ t <+: s := by
 have hid := rW dX s
 have wV := List.takeWhile_prefix dX (l := s)
 unfold ia at h
 simp only at h
 split at h
 · rename_i hw
   split at h
   · rename_i x hx
     simp only [ji, true_and] at h
     obtain ⟨rfl, rfl⟩ := h
     have hm := List.mem_of_find?_eq_some hx
     have hp := List.find?_some hx
     exact ⟨⟨(C0 _ hm).2, (C0 _ hm).1⟩, List.isPrefixOf_iff_prefix.1 hp⟩
   · simp at h
 · rename_i c r hw
   have key : ∀ {e : Int} {k : Nat}, ia (s.takeWhile dX) = (e, k, s.takeWhile dX) -> e = 0 -> pb ⟨k, s.takeWhile dX, 0⟩ /\ s.takeWhile dX <+: s := fun h1 h2 => ⟨⟨by simp [hw], by rw [h1, h2]⟩, wV⟩
   split at h
   · rename_i hd
     simp only [ji] at h
     obtain ⟨h1, rfl, rfl⟩ := h
     refine key ?_ h1
     unfold ia
     simp only [hid]
     rw [hw]
     simp only [if_pos hd]
   · rename_i hd
     split at h
     · simp at h
     · rename_i hs
       split at h
       · rename_i hk
         simp only [ji, true_and] at h
         obtain ⟨rfl, rfl⟩ := h
         refine key ?_ rfl
         unfold ia
         simp only [hid]
         rw [hw] at hk ⊢
         simp only [if_neg hd, if_neg hs, if_pos hk]
       · rename_i hk
         split at h
         · simp at h
         · rename_i hl
           simp only [ji, true_and] at h
           obtain ⟨rfl, rfl⟩ := h
           refine key ?_ rfl
           unfold ia
           simp only [hid]
           rw [hw] at hk hl ⊢
           simp only [if_neg hd, if_neg hs, if_neg hk, if_neg hl]
theorem vB : ∀ (f : Nat) (s : aZ) (p : Nat) (l : List Tk) {L : List Tk}, j9 f s p l = .ok L -> (∀ t ∈ l, pb t) -> l.length <= 900 -> (∀ t ∈ L, pb t) /\ L.length <= 900
 | 0, s, p, l, L, h, hl, hn => by simp only [j9, Bl.ok.injEq] at h; subst h; exact ⟨hl, hn⟩
 | f + 1, s, p, l, L, h, hl, hn => by
   simp only [j9] at h
   split at h
   · simp only [Bl.ok.injEq] at h; subst h; exact ⟨hl, hn⟩
   · split at h
     · exact vB f s _ l h hl hn
     · split at h
       · exact vB f s _ l h hl hn
       · split at h
         · cases h
         · rename_i he
           split at h
           · cases h
           · rename_i hc
             refine vB f s _ _ h (fun t ht => ?_) (by simp; omega)
             simp only [eH, kM] at ht
             rcases ht with ht | rfl
             · exact hl t ht
             · have iL : (ia _).1 = 0 := Decidable.not_not.1 he
               exact (zC (Prod.ext iL rfl)).1
theorem PI {s : aZ} {L : List Tk} (h : mS s = .ok L) : (∀ t ∈ L, pb t) /\ L.length <= 900 := by
 unfold mS at h
 split at h
 split at h
 · cases h
 · exact vB _ _ _ _ h (by simp) (by simp)
end Go.Rip
namespace Go.Rip
def gE (a : Int) (s : aZ) : Int := s.foldl (fun n c => min (10 * n + ((c.toNat : Int) - 48)) 1000001) a
def wQ (a : Int) (s : aZ) : Int := s.foldl (fun n c => 10 * n + ((c.toNat : Int) - 48)) a
theorem kH {c : UInt8} : fN c = true ↔ 48 <= c.toNat /\ c.toNat <= 57 := by simp [fN]
theorem ER : ∀ (s : aZ) (a : Int), a <= 1000001 -> gE a s <= 1000001
 | [], a, h => h
 | c :: s, a, h => ER s (min (10 * a + ((c.toNat : Int) - 48)) 1000001) (by omega)
theorem rO : ∀ (s : aZ) (a : Int), s.all fN = true -> 0 <= a -> min a 1000001 <= gE a s
 | [], a, _, h => by simp [gE]; omega
 | c :: s, a, hd, h => by
   simp only [List.all_cons, bM] at hd
   have h1 := kH.1 hd.1
   have := rO s (min (10 * a + ((c.toNat : Int) - 48)) 1000001) hd.2 (by omega)
   have e : gE a (c :: s) = gE (min (10 * a + ((c.toNat : Int) - 48)) 1000001) s := rfl
   omega
theorem Ax : ∀ (s : aZ) (a : Int), s.all fN = true -> 0 <= a -> gE a s <= 1000000 -> gE a s = wQ a s
 | [], a, _, _, _ => rfl
 | c :: s, a, hd, h, hl => by
   simp only [List.all_cons, bM] at hd
   have h1 := kH.1 hd.1
   have e : gE a (c :: s) = gE (min (10 * a + ((c.toNat : Int) - 48)) 1000001) s := rfl
   have e2 : wQ a (c :: s) = wQ (10 * a + ((c.toNat : Int) - 48)) s := rfl
   have hg := rO s (min (10 * a + ((c.toNat : Int) - 48)) 1000001) hd.2 (by omega)
   have hm : min (10 * a + ((c.toNat : Int) - 48)) 1000001 = 10 * a + ((c.toNat : Int) - 48) := by omega
   rw [hm] at e
   rw [e, e2]
   exact Ax s _ hd.2 (by omega) (by omega)
theorem CK : ∀ (s : aZ) (a : Int), s.all fN = true -> 1 <= a -> gE a s <= 1000000 -> 10 ^ s.length * a <= gE a s
 | [], a, _, _, _ => by simp [gE]
 | c :: s, a, hd, h, hl => by
   simp only [List.all_cons, bM] at hd
   have h1 := kH.1 hd.1
   have e : gE a (c :: s) = gE (min (10 * a + ((c.toNat : Int) - 48)) 1000001) s := rfl
   have hg := rO s (min (10 * a + ((c.toNat : Int) - 48)) 1000001) hd.2 (by omega)
   have hm : min (10 * a + ((c.toNat : Int) - 48)) 1000001 = 10 * a + ((c.toNat : Int) - 48) := by omega
   rw [hm] at e
   rw [e] at hl ⊢
   have := CK s _ hd.2 (by omega) hl
   have hp : (0 : Int) < 10 ^ s.length := Int.pow_pos (by omega)
   have : 10 ^ s.length * (10 * a) <= 10 ^ s.length * (10 * a + ((c.toNat : Int) - 48)) := Int.mul_le_mul_of_nonneg_left (by omega) (by omega)
   rw [nc, Int.pow_succ, Int.mul_assoc]
   omega
theorem EP {s : aZ} (h : l8 s = 0) : s.all fN = true /\ ¬ (1 < s.length /\ s.head? = some 48) /\ CL s <= 1000000 := by
 unfold l8 at h
 split at h
 · cases h
 · rename_i h1
   split at h
   · cases h
   · rename_i h2
     split at h
     · cases h
     · rename_i h3; exact ⟨by simpa using h1, h2, by omega⟩
theorem IN {s : aZ} (h0 : s ≠ []) (h : l8 s = 0) : 1 <= s.length /\ s.length <= 7 /\ CL s = sj s /\ 0 <= sj s /\ sj s <= 1000000 := by
 obtain ⟨h1, h2, h3⟩ := EP h
 have hv : CL s = gE 0 s := rfl
 have hd : sj s = wQ 0 s := rfl
 have e := Ax s 0 h1 (by omega) (by omega)
 have hg := rO s 0 h1 (by omega)
 refine ⟨?_, ?_, by omega, by omega, by omega⟩
 · cases s with
   | nil => exact absurd rfl h0
   | cons c s => simp
 · cases s with
   | nil => simp
   | cons c s =>
     simp only [List.all_cons, bM] at h1
     have hc := kH.1 h1.1
     rcases fT s.length 1 with hl | hl
     · simp; omega
     · have En : c ≠ 48 := fun e => h2 ⟨by simp; omega, by simp [e]⟩
       have xN : c.toNat ≠ 48 := fun e => En (by apply UInt8.toNat_inj.1; simpa using e)
       have e1 : gE 0 (c :: s) = gE ((c.toNat : Int) - 48) s := by
        show gE (min (10 * 0 + ((c.toNat : Int) - 48)) 1000001) s = _
        congr 1; omega
       have hlen := CK s ((c.toNat : Int) - 48) h1.2 (by omega) (by omega)
       rcases fT s.length 7 with hl | hl
       · simp; omega
       · exfalso
         have h7 : (10 : Int) ^ 7 <= 10 ^ s.length := by
          have := Nat.pow_le_pow_right (n := 10) (by omega) hl
          exact_mod_cast this
         have : (10 : Int) ^ s.length * 1 <= 10 ^ s.length * ((c.toNat : Int) - 48) := Int.mul_le_mul_of_nonneg_left (by omega) (by omega)
         omega
theorem M8 {s : aZ} (h : ia s = (0, 2, s)) (h0 : s ≠ []) : l8 s = 0 := by
 unfold ia at h
 simp only at h
 split at h
 · split at h <;> simp at h
 · rename_i c r hw
   split at h
   · simp only [ji, true_and] at h
     rw [h.2] at h; exact h.1
   · split at h
     · simp at h
     · split at h
       · simp at h
       · split at h <;> simp at h
theorem PS {t : Tk} (h : pb t) (hk : t.k = 2) : l8 t.s = 0 := M8 (by rw [h.2, hk]) h.1
theorem vP : ∀ (s : aZ) (a : Nat), s.all fN = true -> ∃ m, Lib.decFrom a s = some m /\ (m : Int) = wQ a s
 | [], a, _ => ⟨a, rfl, rfl⟩
 | c :: s, a, h => by
   simp only [List.all_cons, bM] at h
   have hc := kH.1 h.1
   obtain ⟨m, h1, h2⟩ := vP s (a * 10 + (c.toNat - 48)) h.2
   refine ⟨m, ?_, ?_⟩
   · simp only [Lib.decFrom, Lib.digitVal, if_pos hc]; exact h1
   · rw [h2]
     show wQ _ s = wQ (10 * (a : Int) + ((c.toNat : Int) - 48)) s
     congr 1; omega
theorem Lp {s : aZ} (h0 : s ≠ []) (h : s.all fN = true) : Lib.atoi s = some (sj s) := by
 cases s with
 | nil => exact absurd rfl h0
 | cons c s =>
   have h' := h
   simp only [List.all_cons, bM] at h'
   have hc := kH.1 h'.1
   obtain ⟨m, h1, h2⟩ := vP (c :: s) 0 h
   have Zs : (c == 45) = false := by simp; rintro rfl; simp at hc
   have Zr : (c == 43) = false := by simp; rintro rfl; simp at hc
   simp only [Lib.atoi, Zs, Zr, bu, if_false, Lib.decNat, List.isEmpty_cons, h1, Option.map_some, fL]
   exact h2
end Go.Rip
namespace Go.Rip
theorem u6 {s : aZ} {k : Nat} {t : aZ} (h : ia s = (0, k, t)) : (k = 1 /\ t ∉ nE /\ t.length <= 12 /\ (∃ c r, t = c :: r /\ nU c = true) /\ t.all dX = true) \/ (k = 2 /\ ∃ c r, t = c :: r /\ fN c = true) \/ (k = 3 /\ t ∈ nE) \/ (k = 4 /\ t ∈ qW) := by
 have bK : (s.takeWhile dX).all dX = true := by
  rw [eh]; intro x hx
  have : ∀ l : aZ, x ∈ l.takeWhile dX -> dX x = true := fun l => by
   induction l with
   | nil => simp
   | cons c l ih =>
     simp only [sV]
     split
     · rename_i hc
       intro h
       rcases dA.1 h with rfl | h
       · exact hc
       · exact ih h
     · simp
  exact this s hx
 unfold ia at h
 simp only at h
 split at h
 · split at h
   · rename_i x hx
     simp only [ji, true_and] at h
     obtain ⟨rfl, rfl⟩ := h
     exact .inr (.inr (.inr ⟨rfl, List.mem_of_find?_eq_some hx⟩))
   · simp at h
 · rename_i c r hw
   split at h
   · rename_i hd
     simp only [ji] at h
     obtain ⟨h1, rfl, rfl⟩ := h
     exact .inr (.inl ⟨rfl, c, r, hw, hd⟩)
   · split at h
     · simp at h
     · rename_i hs
       split at h
       · rename_i hk
         simp only [ji, true_and] at h
         obtain ⟨rfl, rfl⟩ := h
         exact .inr (.inr (.inl ⟨rfl, hk⟩))
       · rename_i hk
         split at h
         · simp at h
         · rename_i hl
           simp only [ji, true_and] at h
           obtain ⟨rfl, rfl⟩ := h
           exact .inl ⟨rfl, hk, by omega, ⟨c, r, hw, by simpa using hs⟩, bK⟩
theorem pb.cases {t : Tk} (h : pb t) : (t.k = 1 /\ t.s ∉ nE) \/ t.k = 2 \/ (t.k = 3 /\ t.s ∈ nE) \/ (t.k = 4 /\ t.s ∈ qW) := by
 rcases u6 h.2 with h | h | h | h
 · exact .inl ⟨h.1, h.2.1⟩
 · exact .inr (.inl h.1)
 · exact .inr (.inr (.inl h))
 · exact .inr (.inr (.inr h))
theorem Gf : ∀ w ∈ nE, w ∉ qW := by decide
theorem Iq {L : List Tk} {i : Nat} {w : aZ} (h : cr L i w = true) : ∃ t, L[i]? = some t /\ (t.k = 3 \/ t.k = 4) /\ t.s = w := by
 unfold cr at h
 split at h
 · rename_i t ht
   simp only [bM, hZ, beq_iff_eq] at h
   exact ⟨t, ht, h.1, h.2⟩
 · cases h
theorem PD {L : List Tk} {i : Nat} {w : aZ} {t : Tk} (ht : L[i]? = some t) (hk : t.k = 3 \/ t.k = 4) (hs : t.s = w) : cr L i w = true := by
 unfold cr; rw [ht]; simp [hs, hk]
theorem PC {L : List Tk} (hL : ∀ t ∈ L, pb t) {i : Nat} {w : aZ} (hw : w ∈ nE) (h : cr L i w = true) : ∃ t, L[i]? = some t /\ t.k = 3 /\ t.s = w := by
 obtain ⟨t, ht, hk, hs⟩ := Iq h
 refine ⟨t, ht, ?_, hs⟩
 rcases hk with hk | hk
 · exact hk
 · rcases (hL t (fS ht)).cases with h | h | h | h
   · omega
   · omega
   · omega
   · rw [hs] at h; exact absurd h.2 (Gf w hw)
def nL (o : Option Tk) : aZ := match o with | some t => if t.k = 3 \/ t.k = 4 then t.s else [] | none => []
theorem Ak {L : List Tk} {i : Nat} {w : aZ} (hw : w ≠ []) : cr L i w = decide (nL L[i]? = w) := by
 unfold cr nL
 split
 · rename_i t ht
   by_cases h : t.k = 3 \/ t.k = 4
   · by_cases hs : t.s = w <;> simp [ht, h, hs]
   · have h3 : ¬ t.k = 3 := fun e => h (.inl e)
     have h4 : ¬ t.k = 4 := fun e => h (.inr e)
     simp [ht, h3, h4, Ne.symm hw]
 · rename_i ht; simp [ht, Ne.symm hw]
end Go.Rip
