/- Lemmas for the proof: no conditions. -/
import Derived.Test.YtnfpmiiopiinbaaGreatDoorRipZz
import Derived.Test.YtnfpmiiopiinbaaGreatDoorRipD
import Derived.Lib.Atoi
set_option linter.unusedVariables false
set_option linter.unusedSimpArgs false
set_option linter.loopingSimpArgs false
namespace Go.Rip
abbrev bg := List UInt8
structure Tk where
 k : Nat
 s : bg
 at_ : Nat
 deriving DecidableEq
structure Nd where
 kind : Int
 text : bg
 n : Int
 m : Int
 at_ : Int
 size : Int
 deriving DecidableEq
def dS (c : UInt8) : Bool := decide (48 <= c.toNat /\ c.toNat <= 57)
def iQ (c : UInt8) : Bool := decide (97 <= c.toNat /\ c.toNat <= 122)
def wo (c : UInt8) : Bool := decide (65 <= c.toNat /\ c.toNat <= 90)
def cK (c : UInt8) : Bool := dS c || iQ c || wo c
def nU (c : UInt8) : Bool := decide (c.toNat = 10 \/ 32 <= c.toNat /\ c.toNat <= 126)
def Am (s : bg) : Int := s.foldl (fun n c => min (10 * n + ((c.toNat : Int) - 48)) 1000001) 0
def tj (s : bg) : Int := s.foldl (fun n c => 10 * n + ((c.toNat : Int) - 48)) 0
def iC (s : bg) : Int := if s.all dS = false then 4 else if 1 < s.length /\ s.head? = some 48 then 4 else if 1000000 < Am s then 3 else 0
def kf : List bg := [zH, Eb, MN, MO, oJ, Q8, uj, AE, kL, nq, gl, Ec, B6, kM, yk, nr, qN, Q9, mP, pW, wP, B7, oK, WI, Ed, B8, jo, s8, fR, oL]
def fC : List bg := [cP, iL, wN, wM, wI, wK, wH, oW, oX, pL, wO, zG, wJ, rC, wL, zF]
def fD (s : bg) : Int × Nat × bg :=
 let w := s.takeWhile cK
 match w with
 | [] => match fC.find? fun x => x.isPrefixOf s with
   | some x => (0, 4, x)
   | none => (4, 0, [])
 | c :: _ => if dS c then (iC w, 2, w) else if iQ c = false then (4, 0, []) else if w ∈ kf then (0, 3, w) else if 12 < w.length then (4, 0, []) else (0, 1, w)
inductive Cc where
 | ok (l : List Tk)
 | bad (p : Nat) (e : Int)
def kX : Nat -> bg -> Nat -> List Tk -> Cc
 | 0, _, _, l => .ok l
 | f + 1, s, p, l => match s.drop p with
   | [] => .ok l
   | c :: r => if c.toNat = 32 \/ c.toNat = 10 then kX f s (p + 1) l
     else if c.toNat = 126 then kX f s (p + ((c :: r).takeWhile fun c => c.toNat ≠ 10).length) l
     else match fD (c :: r) with
      | (e, k, t) => if e ≠ 0 then .bad p e else if l.length = 900 then .bad p 5 else kX f s (p + t.length) (l ++ [⟨k, t, p⟩])
def rH (s : bg) : Nat × Int := if 2500 < s.length then (0, 5) else match s.findIdx? (fun c => !nU c) with | some i => (i, 2) | none => (0, 0)
def nX (s : bg) : Cc := match rH s with
 | (p, e) => if e ≠ 0 then .bad p e else kX s.length s 0 []
inductive PR (α : Type) where
 | ok (a : α) (i : Nat)
 | bad (i : Nat)
 | out
def PR.bind {α β : Type} (x : PR α) (f : α -> Nat -> PR β) : PR β := match x with
 | .ok a i => f a i
 | .bad i => .bad i
 | .out => .out
def node (kind : Int) (text : bg) (n m at_ : Int) (kids : List Nd) : List Nd := ⟨kind, text, n, m, at_, (kids.length : Int) + 1⟩ :: kids
section
variable (L : List Tk) (E : Nat)
def eP (i : Nat) : Int := match L[i]? with | some t => t.at_ | none => E
def cC (i : Nat) (w : bg) : Bool := match L[i]? with | some t => (t.k == 3 || t.k == 4) && t.s == w | none => false
def rQ (i : Nat) (k : Nat) : Bool := match L[i]? with | some t => t.k == k | none => false
def Di (i : Nat) : Bool := cC L i nr || cC L i uj || cC L i nq
def cE (w : bg) (i : Nat) : PR Unit := if cC L i w = true then .ok () (i + 1) else .bad i
def iV (i : Nat) : PR bg := match L[i]? with | some t => if t.k = 1 then .ok t.s (i + 1) else .bad i | none => .bad i
def ki (i : Nat) : PR Int := match L[i]? with | some t => if t.k = 2 then .ok (tj t.s) (i + 1) else .bad i | none => .bad i
def pH (one : Nat -> PR (List Nd)) : Nat -> List Nd -> Nat -> PR (List Nd)
 | 0, _, _ => .out
 | f + 1, acc, i => if cC L i wJ = true then (one (i + 1)).bind fun b j => pH one f (acc ++ b) j else .ok acc i
def wu (one : Nat -> PR (List Nd)) (f : Nat) (i : Nat) : PR (List Nd) := (one i).bind fun a j => pH L one f a j
def yu (i : Nat) : PR (List Nd) := (iV L i).bind fun x j => .ok (node 37 x 0 0 (eP L E i) []) j
def DC (lev : Nat) (i : Nat) : Option Int :=
 if lev = 2 then if cC L i Ed = true then some 17 else none
 else if lev = 3 then if cC L i zH = true then some 18 else none
 else if lev = 5 then if cC L i wN = true then some 20 else if cC L i wM = true then some 21 else none
 else if lev = 6 then if cC L i wI = true then some 22 else if cC L i wK = true then some 23 else none
 else if lev = 7 then if cC L i wH = true then some 24 else none
 else if lev = 8 then if cC L i Eb = true then some 25 else none
 else none
mutual
def ug : Nat -> Nat -> PR (List Nd)
 | 0, _ => .out
 | f + 1, i => (cz f i).bind fun a j => ye f (eP L E j) a 1 j
def ye : Nat -> Int -> List Nd -> Nat -> Nat -> PR (List Nd)
 | 0, _, _, _, _ => .out
 | f + 1, at_, acc, many, i => if cC L i rC = true /\ i + 1 < L.length /\ Di L (i + 1) = false then (cz f (i + 1)).bind fun b j => ye f at_ (acc ++ b) (many + 1) j
   else .ok (if many = 1 then acc else node 9 [] 0 0 at_ acc) i
def cz : Nat -> Nat -> PR (List Nd)
 | 0, _ => .out
 | f + 1, i =>
   if cC L i yk = true then (cz f (i + 1)).bind fun c j => (cE L s8 j).bind fun _ j => (cz f j).bind fun a j => (cE L kL j).bind fun _ j => (cz f j).bind fun b j => .ok (node 10 [] 0 0 (eP L E i) (c ++ a ++ b)) j
   else if cC L i oL = true then (cz f (i + 1)).bind fun a j => (cE L AE j).bind fun _ j => (cz f j).bind fun b j => .ok (node 11 [] 0 0 (eP L E i) (a ++ b)) j
   else if cC L i wP = true then (iV L (i + 1)).bind fun x j => (cE L wL j).bind fun _ j => (ki L j).bind fun n j => (cE L cP j).bind fun _ j => (ki L j).bind fun m j => (cE L qN j).bind fun _ j => (cz f j).bind fun a j => .ok (node 12 x n m (eP L E i) a) j
   else if cC L i pW = true then (iV L (i + 1)).bind fun x j => (cE L qN j).bind fun _ j => (cz f j).bind fun a j => (cE L kL j).bind fun _ j => (cz f j).bind fun b j => .ok (node 13 x 0 0 (eP L E i) (a ++ b)) j
   else if cC L i oJ = true then (cz f (i + 1)).bind fun a j => (cE L kL j).bind fun _ j => (cz f j).bind fun b j => .ok (node 15 [] 0 0 (eP L E i) (a ++ b)) j
   else if cC L i oK = true then (iV L (i + 1)).bind fun x j => (cE L cP j).bind fun _ j => (ki L j).bind fun n j => (cE L qN j).bind fun _ j => (cz f j).bind fun a j => .ok (node 14 x n 0 (eP L E i) a) j
   else if rQ L i 1 = true /\ cC L (i + 1) cP = true then (iV L i).bind fun x j => (cE L cP j).bind fun _ j => (cz f j).bind fun a j => .ok (node 16 x 0 0 (eP L E i) a) j
   else kj f 2 i
def kj : Nat -> Nat -> Nat -> PR (List Nd)
 | 0, _, _ => .out
 | f + 1, lev, i =>
   if lev = 9 then tf f i
   else if lev = 4 then if cC L i B7 = true then (kj f 4 (i + 1)).bind fun a j => .ok (node 19 [] 0 0 (eP L E i) a) j else kj f 5 i
   else (kj f (lev + 1) i).bind fun a j => tN f lev a j
def tN : Nat -> Nat -> List Nd -> Nat -> PR (List Nd)
 | 0, _, _, _ => .out
 | f + 1, lev, left, i => match DC L lev i with
   | none => .ok left i
   | some kind => if lev = 8 then (ki L (i + 1)).bind fun n j => tN f lev (node kind [] n 0 (eP L E i) left) j
     else (kj f (lev + 1) (i + 1)).bind fun b j => if lev = 5 then .ok (node kind [] 0 0 (eP L E i) (left ++ b)) j else tN f lev (node kind [] 0 0 (eP L E i) (left ++ b)) j
def tf : Nat -> Nat -> PR (List Nd)
 | 0, _ => .out
 | f + 1, i =>
   if cC L i fR = true then .ok (node 27 [] 0 0 (eP L E i) []) (i + 1)
   else if cC L i gl = true then .ok (node 28 [] 0 0 (eP L E i) []) (i + 1)
   else if cC L i jo = true then .ok (node 29 [] 0 0 (eP L E i) []) (i + 1)
   else if cC L i kM = true then .ok (node 30 [] 0 0 (eP L E i) []) (i + 1)
   else if cC L i mP = true then (iV L (i + 1)).bind fun x j => .ok (node 31 x 0 0 (eP L E i) []) j
   else if cC L i oW = true then (iV L (i + 1)).bind fun x j => .ok (node 32 x 0 0 (eP L E i) []) j
   else if cC L i oX = true then (ug f (i + 1)).bind fun a j => (cE L pL j).bind fun _ j => .ok a j
   else if rQ L i 2 = true then (ki L i).bind fun n j => .ok (node 26 [] n 0 (eP L E i) []) j
   else (iV L i).bind fun x j => if cC L j oX = true then (ov f (j + 1)).bind fun a j => (pC f a j).bind fun a j => (cE L pL j).bind fun _ j => .ok (node 34 x 0 0 (eP L E i) a) j
    else .ok (node 33 x 0 0 (eP L E i) []) j
def pC : Nat -> List Nd -> Nat -> PR (List Nd)
 | 0, _, _ => .out
 | f + 1, acc, i => if cC L i wJ = true then (ov f (i + 1)).bind fun b j => pC f (acc ++ b) j else .ok acc i
def ov : Nat -> Nat -> PR (List Nd)
 | 0, _ => .out
 | f + 1, i =>
   if cC L i Ec = true then (cE L oX (i + 1)).bind fun _ j => (wu L (yu L E) (L.length + 1) j).bind fun a j => (cE L pL j).bind fun _ j => (cz f j).bind fun b j => .ok (node 35 [] 0 0 (eP L E i) (a ++ b)) j
   else if cC L i wO = true then (cE L B6 (i + 1)).bind fun _ j => (cz f j).bind fun a j => (cE L rC j).bind fun _ j => (cE L B8 j).bind fun _ j => (yu L E j).bind fun b j => (cE L zF j).bind fun _ j => (cz f j).bind fun c j => (cE L zG j).bind fun _ j => .ok (node 36 [] 0 0 (eP L E i) (a ++ b ++ c)) j
   else ug f i
end
def fuel : Nat := 40 * (L.length + 2)
end
end Go.Rip
namespace Go.Rip
def Gd {α : Type} (n lo lb : Nat) : PR α -> Prop
 | .ok _ j => lo <= j /\ j <= n
 | .bad j => lb <= j /\ j <= n
 | .out => False
section
variable {α β : Type} {n lo Bo lb i : Nat} {L : List Tk} {E : Nat}
theorem Gd.bind {x : PR α} {f : α -> Nat -> PR β} (h : Gd n lo lb x) (k : ∀ a j, lo <= j -> j <= n -> Gd n Bo lb (f a j)) : Gd n Bo lb (x.bind f) := by
 cases x with
 | ok a j => exact k a j h.1 h.2
 | bad j => exact h
 | out => exact h.elim
theorem Gd.ite {c : Prop} [Decidable c] {x y : PR α} (h : c -> Gd n lo lb x) (k : ¬ c -> Gd n lo lb y) : Gd n lo lb (if c then x else y) := by
 split
 · exact h ‹_›
 · exact k ‹_›
theorem Gd.low {x : PR α} (h : Gd n lo lb x) (k : Bo <= lo) : Gd n Bo lb x := by
 cases x with
 | ok a j => exact ⟨Nat.le_trans k h.1, h.2⟩
 | bad j => exact h
 | out => exact h
theorem Gd.NW {lb' : Nat} {x : PR α} (h : Gd n lo lb x) (k : lb' <= lb) : Gd n lo lb' x := by
 cases x with
 | ok a j => exact h
 | bad j => exact ⟨Nat.le_trans k h.1, h.2⟩
 | out => exact h
theorem Gd.at' {lb' : Nat} {x : PR α} (h : Gd n lo lb x) (k : Bo <= lo) (k' : lb' <= lb) : Gd n Bo lb' x := (h.low k).NW k'
theorem df {w : bg} (h : cC L i w = true) : i < L.length := by
 unfold cC at h
 split at h
 · rename_i t ht; exact (dy.1 ht).1
 · cases h
theorem Rz {k : Nat} (h : rQ L i k = true) : i < L.length := by
 unfold rQ at h
 split at h
 · rename_i t ht; exact (dy.1 ht).1
 · cases h
theorem ee {w : bg} (h : i <= L.length) : Gd L.length (i + 1) i (cE L w i) := by
 unfold cE
 exact .ite (fun c => ⟨de _, df c⟩) fun _ => ⟨de _, h⟩
theorem lB (h : i <= L.length) : Gd L.length (i + 1) i (iV L i) := by
 unfold iV
 split
 · rename_i t ht
   have := (dy.1 ht).1
   exact .ite (fun c => ⟨de _, this⟩) fun _ => ⟨de _, h⟩
 · exact ⟨de _, h⟩
theorem qw (h : i <= L.length) : Gd L.length (i + 1) i (ki L i) := by
 unfold ki
 split
 · rename_i t ht
   have := (dy.1 ht).1
   exact .ite (fun c => ⟨de _, this⟩) fun _ => ⟨de _, h⟩
 · exact ⟨de _, h⟩
theorem Dv {one : Nat -> PR (List Nd)} (h1 : ∀ i, i <= L.length -> Gd L.length (i + 1) i (one i)) : ∀ (f : Nat) (acc : List Nd) (i : Nat), i <= L.length -> L.length - i < f -> Gd L.length i i (pH L one f acc i)
 | 0, acc, i, hi, hf => by omega
 | f + 1, acc, i, hi, hf => by
   unfold pH
   refine .ite (fun c => ?_) fun _ => ⟨de _, hi⟩
   have := df c
   refine ((h1 (i + 1) this).NW (lb' := i) (by omega)).bind fun b j h2 h3 => ?_
   exact (Dv h1 f _ j h3 (by omega)).at' (by omega) (by omega)
theorem NT {one : Nat -> PR (List Nd)} (h1 : ∀ i, i <= L.length -> Gd L.length (i + 1) i (one i)) {f : Nat} (hi : i <= L.length) (hf : L.length - i <= f) (h0 : 0 < f) : Gd L.length (i + 1) i (wu L one f i) := by
 unfold wu
 refine (h1 i hi).bind fun a j h2 h3 => ?_
 exact (Dv h1 f _ j h3 (by omega)).at' (by omega) (by omega)
theorem tg (h : i <= L.length) : Gd L.length (i + 1) i (yu L E i) := by
 unfold yu
 exact (lB h).bind fun a j h2 h3 => ⟨h2, h3⟩
theorem Gd.step {ZJ ZF : Nat} {x : PR α} {f : α -> Nat -> PR β} (h : Gd n ZJ ZF x) (hb : lb <= ZF) (k : ∀ a j, ZJ <= j -> j <= n -> Gd n Bo lb (f a j)) : Gd n Bo lb (x.bind f) := (h.NW hb).bind k
theorem FV {lev : Nat} {k : Int} (h : DC L lev i = some k) : i < L.length := by
 unfold DC at h
 repeat' (split at h)
 all_goals first
  | (cases h; done)
  | exact df ‹_›
theorem z8 : ∀ f : Nat,
 (∀ i, i <= L.length -> 40 * (L.length - i) + 11 <= f -> Gd L.length (i + 1) i (ug L E f i)) /\
 (∀ i at_ acc many, i <= L.length -> 40 * (L.length - i) + 1 <= f -> Gd L.length i i (ye L E f at_ acc many i)) /\
 (∀ i, i <= L.length -> 40 * (L.length - i) + 10 <= f -> Gd L.length (i + 1) i (cz L E f i)) /\
 (∀ i lev, i <= L.length -> lev <= 9 -> 40 * (L.length - i) + (11 - lev) <= f -> Gd L.length (i + 1) i (kj L E f lev i)) /\
 (∀ i lev left, i <= L.length -> lev <= 8 -> 40 * (L.length - i) + 1 <= f -> Gd L.length i i (tN L E f lev left i)) /\
 (∀ i, i <= L.length -> 40 * (L.length - i) + 1 <= f -> Gd L.length (i + 1) i (tf L E f i)) /\
 (∀ i acc, i <= L.length -> 40 * (L.length - i) + 1 <= f -> Gd L.length i i (pC L E f acc i)) /\
 (∀ i, i <= L.length -> 40 * (L.length - i) + 12 <= f -> Gd L.length (i + 1) i (ov L E f i)) := by
 intro f
 induction f with
 | zero => refine ⟨?_, ?_, ?_, ?_, ?_, ?_, ?_, ?_⟩ <;> intros <;> omega
 | succ f ih =>
   obtain ⟨iT, iS, iF, iO, iP, iA, iG, iR⟩ := ih
   refine ⟨?_, ?_, ?_, ?_, ?_, ?_, ?_, ?_⟩
   · intro i hi hf
     rw [ug]
     refine (iF i hi (by omega)).bind fun a j h1 h2 => ?_
     exact (iS j _ _ _ h2 (by omega)).at' (by omega) (by omega)
   · intro i at_ acc many hi hf
     rw [ye]
     refine .ite (fun c => ?_) fun _ => ⟨de _, hi⟩
     have h0 := df c.1
     refine (iF (i + 1) (by omega) (by omega)).step (by omega) fun a j h1 h2 => ?_
     exact (iS j _ _ _ h2 (by omega)).at' (by omega) (by omega)
   · intro i hi hf
     rw [cz]
     refine .ite (fun c => ?_) fun _ => .ite (fun c => ?_) fun _ => .ite (fun c => ?_) fun _ => .ite (fun c => ?_) fun _ => .ite (fun c => ?_) fun _ => .ite (fun c => ?_) fun _ => .ite (fun c => ?_) fun _ => ?_
     · have h0 := df c
       refine (iF (i + 1) (by omega) (by omega)).step (by omega) fun a j h1 h2 => (ee h2).step (by omega) fun a j h3 h4 => (iF j (by omega) (by omega)).step (by omega) fun a j h5 h6 => (ee h6).step (by omega) fun a j h7 h8 => (iF j (by omega) (by omega)).step (by omega) fun a j h9 nA => ⟨by omega, nA⟩
     · have h0 := df c
       exact (iF (i + 1) (by omega) (by omega)).step (by omega) fun a j h1 h2 => (ee h2).step (by omega) fun a j h3 h4 => (iF j (by omega) (by omega)).step (by omega) fun a j h5 h6 => ⟨by omega, h6⟩
     · have h0 := df c
       exact (lB h0).step (by omega) fun a j h1 h2 => (ee h2).step (by omega) fun a j h3 h4 => (qw h4).step (by omega) fun a j h5 h6 => (ee h6).step (by omega) fun a j h7 h8 => (qw h8).step (by omega) fun a j h9 nA => (ee nA).step (by omega) fun a j ux va => (iF j (by omega) (by omega)).step (by omega) fun a j h13 Um => ⟨by omega, Um⟩
     · have h0 := df c
       exact (lB h0).step (by omega) fun a j h1 h2 => (ee h2).step (by omega) fun a j h3 h4 => (iF j (by omega) (by omega)).step (by omega) fun a j h5 h6 => (ee h6).step (by omega) fun a j h7 h8 => (iF j (by omega) (by omega)).step (by omega) fun a j h9 nA => ⟨by omega, nA⟩
     · have h0 := df c
       exact (iF (i + 1) (by omega) (by omega)).step (by omega) fun a j h1 h2 => (ee h2).step (by omega) fun a j h3 h4 => (iF j (by omega) (by omega)).step (by omega) fun a j h5 h6 => ⟨by omega, h6⟩
     · have h0 := df c
       exact (lB h0).step (by omega) fun a j h1 h2 => (ee h2).step (by omega) fun a j h3 h4 => (qw h4).step (by omega) fun a j h5 h6 => (ee h6).step (by omega) fun a j h7 h8 => (iF j (by omega) (by omega)).step (by omega) fun a j h9 nA => ⟨by omega, nA⟩
     · have h0 := Rz c.1
       exact (lB hi).step (by omega) fun a j h1 h2 => (ee h2).step (by omega) fun a j h3 h4 => (iF j (by omega) (by omega)).step (by omega) fun a j h5 h6 => ⟨by omega, h6⟩
     · exact iO i 2 hi (by omega) (by omega)
   · intro i lev hi hl hf
     rw [kj]
     refine .ite (fun c => ?_) fun c9 => .ite (fun c => .ite (fun d => ?_) fun d => ?_) fun c4 => ?_
     · exact iA i hi (by omega)
     · have h0 := df d
       exact (iO (i + 1) 4 (by omega) (by omega) (by omega)).step (by omega) fun a j h1 h2 => ⟨by omega, h2⟩
     · exact iO i 5 hi (by omega) (by omega)
     · refine (iO i (lev + 1) hi (by omega) (by omega)).bind fun a j h1 h2 => ?_
       exact (iP j lev a h2 (by omega) (by omega)).at' (by omega) (by omega)
   · intro i lev left hi hl hf
     rw [tN]
     split
     · exact ⟨de _, hi⟩
     · rename_i k hk
       have h0 := FV hk
       refine .ite (fun c => ?_) fun c => ?_
       · exact (qw h0).step (by omega) fun a j h1 h2 => (iP j lev _ h2 hl (by omega)).at' (by omega) (by omega)
       · refine (iO (i + 1) (lev + 1) h0 (by omega) (by omega)).step (by omega) fun a j h1 h2 => .ite (fun _ => ⟨by omega, h2⟩) fun _ => ?_
         exact (iP j lev _ h2 hl (by omega)).at' (by omega) (by omega)
   · intro i hi hf
     rw [tf]
     refine .ite (fun c => ⟨de _, df c⟩) fun _ => .ite (fun c => ⟨de _, df c⟩) fun _ => .ite (fun c => ⟨de _, df c⟩) fun _ => .ite (fun c => ⟨de _, df c⟩) fun _ => .ite (fun c => ?_) fun _ => .ite (fun c => ?_) fun _ => .ite (fun c => ?_) fun _ => .ite (fun c => ?_) fun _ => ?_
     · have h0 := df c
       exact (lB h0).step (by omega) fun a j h1 h2 => ⟨by omega, h2⟩
     · have h0 := df c
       exact (lB h0).step (by omega) fun a j h1 h2 => ⟨by omega, h2⟩
     · have h0 := df c
       exact (iT (i + 1) (by omega) (by omega)).step (by omega) fun a j h1 h2 => (ee h2).step (by omega) fun a j h3 h4 => ⟨by omega, h4⟩
     · exact (qw hi).step (by omega) fun a j h1 h2 => ⟨by omega, h2⟩
     · refine (lB hi).step (by omega) fun a j h1 h2 => .ite (fun c => ?_) fun _ => ⟨by omega, h2⟩
       have h0 := df c
       exact (iR (j + 1) (by omega) (by omega)).step (by omega) fun a j h3 h4 => (iG j _ h4 (by omega)).step (by omega) fun a j h5 h6 => (ee h6).step (by omega) fun a j h7 h8 => ⟨by omega, h8⟩
   · intro i acc hi hf
     rw [pC]
     refine .ite (fun c => ?_) fun _ => ⟨de _, hi⟩
     have h0 := df c
     exact (iR (i + 1) (by omega) (by omega)).step (by omega) fun a j h1 h2 => (iG j _ h2 (by omega)).at' (by omega) (by omega)
   · intro i hi hf
     rw [ov]
     refine .ite (fun c => ?_) fun _ => .ite (fun c => ?_) fun _ => ?_
     · have h0 := df c
       exact (ee h0).step (by omega) fun a j h1 h2 => (NT (fun i hi => tg hi) h2 (by omega) (by omega)).step (by omega) fun a j h3 h4 => (ee h4).step (by omega) fun a j h5 h6 => (iF j (by omega) (by omega)).step (by omega) fun a j h7 h8 => ⟨by omega, h8⟩
     · have h0 := df c
       exact (ee h0).step (by omega) fun a j h1 h2 => (iF j (by omega) (by omega)).step (by omega) fun a j h3 h4 => (ee h4).step (by omega) fun a j h5 h6 => (ee h6).step (by omega) fun a j h7 h8 => (tg h8).step (by omega) fun a j h9 nA => (ee nA).step (by omega) fun a j ux va => (iF j (by omega) (by omega)).step (by omega) fun a j h13 Um => (ee Um).step (by omega) fun a j h15 h16 => ⟨by omega, h16⟩
     · exact iT i hi (by omega)
end
end Go.Rip
namespace Go.Rip
def p4 (t : Tk) : Prop := t.s ≠ [] /\ fD t.s = (0, t.k, t.s)
theorem sT (p : UInt8 -> Bool) : ∀ l : bg, (l.takeWhile p).takeWhile p = l.takeWhile p
 | [] => rfl
 | c :: l => by
   simp only [nh]
   cases h : p c with
   | true => simp [h, sT p l]
   | false => rfl
theorem DQ : ∀ x ∈ fC, fD x = (0, 4, x) /\ x ≠ [] := by decide
theorem Az {s : bg} {k : Nat} {t : bg} (h : fD s = (0, k, t)) : p4 ⟨k, t, 0⟩ /\ t <+: s := by
 have hid := sT cK s
 have rP := qB cK (l := s)
 unfold fD at h
 simp only at h
 split at h
 · rename_i hw
   split at h
   · rename_i x hx
     simp only [jz, true_and] at h
     obtain ⟨rfl, rfl⟩ := h
     have hm := List.mem_of_find?_eq_some hx
     have hp := List.find?_some hx
     exact ⟨⟨(DQ _ hm).2, (DQ _ hm).1⟩, List.isPrefixOf_iff_prefix.1 hp⟩
   · simp at h
 · rename_i c r hw
   have key : ∀ {e : Int} {k : Nat}, fD (s.takeWhile cK) = (e, k, s.takeWhile cK) -> e = 0 -> p4 ⟨k, s.takeWhile cK, 0⟩ /\ s.takeWhile cK <+: s := fun h1 h2 => ⟨⟨by simp [hw], by rw [h1, h2]⟩, rP⟩
   split at h
   · rename_i hd
     simp only [jz] at h
     obtain ⟨h1, rfl, rfl⟩ := h
     refine key ?_ h1
     unfold fD
     simp only [hid]
     rw [hw]
     simp only [if_pos hd]
   · rename_i hd
     split at h
     · simp at h
     · rename_i hs
       split at h
       · rename_i hk
         simp only [jz, true_and] at h
         obtain ⟨rfl, rfl⟩ := h
         refine key ?_ rfl
         unfold fD
         simp only [hid]
         rw [hw] at hk ⊢
         simp only [if_neg hd, if_neg hs, if_pos hk]
       · rename_i hk
         split at h
         · simp at h
         · rename_i hl
           simp only [jz, true_and] at h
           obtain ⟨rfl, rfl⟩ := h
           refine key ?_ rfl
           unfold fD
           simp only [hid]
           rw [hw] at hk hl ⊢
           simp only [if_neg hd, if_neg hs, if_neg hk, if_neg hl]
theorem wq : ∀ (f : Nat) (s : bg) (p : Nat) (l : List Tk) {L : List Tk}, kX f s p l = .ok L -> (∀ t ∈ l, p4 t) -> l.length <= 900 -> (∀ t ∈ L, p4 t) /\ L.length <= 900
 | 0, s, p, l, L, h, hl, hn => by simp only [kX, Cc.ok.injEq] at h; subst h; exact ⟨hl, hn⟩
 | f + 1, s, p, l, L, h, hl, hn => by
   simp only [kX] at h
   split at h
   · simp only [Cc.ok.injEq] at h; subst h; exact ⟨hl, hn⟩
   · split at h
     · exact wq f s _ l h hl hn
     · split at h
       · exact wq f s _ l h hl hn
       · split at h
         · cases h
         · rename_i he
           split at h
           · cases h
           · rename_i hc
             refine wq f s _ _ h (fun t ht => ?_) (by simp; omega)
             simp only [fH, ng] at ht
             rcases ht with ht | rfl
             · exact hl t ht
             · have jC : (fD _).1 = 0 := Decidable.not_not.1 he
               exact (Az (Prod.ext jC rfl)).1
theorem RG {s : bg} {L : List Tk} (h : nX s = .ok L) : (∀ t ∈ L, p4 t) /\ L.length <= 900 := by
 unfold nX at h
 split at h
 split at h
 · cases h
 · exact wq _ _ _ _ h (by simp) (by simp)
end Go.Rip
namespace Go.Rip
def gg (a : Int) (s : bg) : Int := s.foldl (fun n c => min (10 * n + ((c.toNat : Int) - 48)) 1000001) a
def xL (a : Int) (s : bg) : Int := s.foldl (fun n c => 10 * n + ((c.toNat : Int) - 48)) a
theorem jV {c : UInt8} : dS c = true ↔ 48 <= c.toNat /\ c.toNat <= 57 := by simp [dS]
theorem Al : ∀ (s : bg) (a : Int), a <= 1000001 -> gg a s <= 1000001
 | [], a, h => h
 | c :: s, a, h => Al s (min (10 * a + ((c.toNat : Int) - 48)) 1000001) (by omega)
theorem pU : ∀ (s : bg) (a : Int), s.all dS = true -> 0 <= a -> min a 1000001 <= gg a s
 | [], a, _, h => by simp [gg]; omega
 | c :: s, a, hd, h => by
   simp only [List.all_cons, bP] at hd
   have h1 := jV.1 hd.1
   have := pU s (min (10 * a + ((c.toNat : Int) - 48)) 1000001) hd.2 (by omega)
   have e : gg a (c :: s) = gg (min (10 * a + ((c.toNat : Int) - 48)) 1000001) s := rfl
   omega
theorem Bt : ∀ (s : bg) (a : Int), s.all dS = true -> 0 <= a -> gg a s <= 1000000 -> gg a s = xL a s
 | [], a, _, _, _ => rfl
 | c :: s, a, hd, h, hl => by
   simp only [List.all_cons, bP] at hd
   have h1 := jV.1 hd.1
   have e : gg a (c :: s) = gg (min (10 * a + ((c.toNat : Int) - 48)) 1000001) s := rfl
   have e2 : xL a (c :: s) = xL (10 * a + ((c.toNat : Int) - 48)) s := rfl
   have hg := pU s (min (10 * a + ((c.toNat : Int) - 48)) 1000001) hd.2 (by omega)
   have hm : min (10 * a + ((c.toNat : Int) - 48)) 1000001 = 10 * a + ((c.toNat : Int) - 48) := by omega
   rw [hm] at e
   rw [e, e2]
   exact Bt s _ hd.2 (by omega) (by omega)
theorem Dz : ∀ (s : bg) (a : Int), s.all dS = true -> 1 <= a -> gg a s <= 1000000 -> 10 ^ s.length * a <= gg a s
 | [], a, _, _, _ => by simp [gg]
 | c :: s, a, hd, h, hl => by
   simp only [List.all_cons, bP] at hd
   have h1 := jV.1 hd.1
   have e : gg a (c :: s) = gg (min (10 * a + ((c.toNat : Int) - 48)) 1000001) s := rfl
   have hg := pU s (min (10 * a + ((c.toNat : Int) - 48)) 1000001) hd.2 (by omega)
   have hm : min (10 * a + ((c.toNat : Int) - 48)) 1000001 = 10 * a + ((c.toNat : Int) - 48) := by omega
   rw [hm] at e
   rw [e] at hl ⊢
   have := Dz s _ hd.2 (by omega) hl
   have hp : (0 : Int) < 10 ^ s.length := Int.pow_pos (by omega)
   have : 10 ^ s.length * (10 * a) <= 10 ^ s.length * (10 * a + ((c.toNat : Int) - 48)) := Int.mul_le_mul_of_nonneg_left (by omega) (by omega)
   rw [jy, Int.pow_succ, Int.mul_assoc]
   omega
theorem FP {s : bg} (h : iC s = 0) : s.all dS = true /\ ¬ (1 < s.length /\ s.head? = some 48) /\ Am s <= 1000000 := by
 unfold iC at h
 split at h
 · cases h
 · rename_i h1
   split at h
   · cases h
   · rename_i h2
     split at h
     · cases h
     · rename_i h3; exact ⟨by simpa using h1, h2, by omega⟩
theorem Jv {s : bg} (h0 : s ≠ []) (h : iC s = 0) : 1 <= s.length /\ s.length <= 7 /\ Am s = tj s /\ 0 <= tj s /\ tj s <= 1000000 := by
 obtain ⟨h1, h2, h3⟩ := FP h
 have hv : Am s = gg 0 s := rfl
 have hd : tj s = xL 0 s := rfl
 have e := Bt s 0 h1 (by omega) (by omega)
 have hg := pU s 0 h1 (by omega)
 refine ⟨?_, ?_, by omega, by omega, by omega⟩
 · cases s with
   | nil => exact absurd rfl h0
   | cons c s => simp
 · cases s with
   | nil => simp
   | cons c s =>
     simp only [List.all_cons, bP] at h1
     have hc := jV.1 h1.1
     rcases eG s.length 1 with hl | hl
     · simp; omega
     · have hc0 : c ≠ 48 := fun e => h2 ⟨by simp; omega, by simp [e]⟩
       have wY : c.toNat ≠ 48 := fun e => hc0 (by apply UInt8.toNat_inj.1; simpa using e)
       have e1 : gg 0 (c :: s) = gg ((c.toNat : Int) - 48) s := by
        show gg (min (10 * 0 + ((c.toNat : Int) - 48)) 1000001) s = _
        congr 1; omega
       have hlen := Dz s ((c.toNat : Int) - 48) h1.2 (by omega) (by omega)
       rcases eG s.length 7 with hl | hl
       · simp; omega
       · exfalso
         have h7 : (10 : Int) ^ 7 <= 10 ^ s.length := by
          have := Nat.pow_le_pow_right (n := 10) (by omega) hl
          exact_mod_cast this
         have : (10 : Int) ^ s.length * 1 <= 10 ^ s.length * ((c.toNat : Int) - 48) := Int.mul_le_mul_of_nonneg_left (by omega) (by omega)
         omega
theorem O0 {s : bg} (h : fD s = (0, 2, s)) (h0 : s ≠ []) : iC s = 0 := by
 unfold fD at h
 simp only at h
 split at h
 · split at h <;> simp at h
 · rename_i c r hw
   split at h
   · simp only [jz, true_and] at h
     rw [h.2] at h; exact h.1
   · split at h
     · simp at h
     · split at h
       · simp at h
       · split at h <;> simp at h
theorem RO {t : Tk} (h : p4 t) (hk : t.k = 2) : iC t.s = 0 := O0 (by rw [h.2, hk]) h.1
theorem wS : ∀ (s : bg) (a : Nat), s.all dS = true -> ∃ m, Lib.decFrom a s = some m /\ (m : Int) = xL a s
 | [], a, _ => ⟨a, rfl, rfl⟩
 | c :: s, a, h => by
   simp only [List.all_cons, bP] at h
   have hc := jV.1 h.1
   obtain ⟨m, h1, h2⟩ := wS s (a * 10 + (c.toNat - 48)) h.2
   refine ⟨m, ?_, ?_⟩
   · simp only [Lib.decFrom, Lib.digitVal, if_pos hc]; exact h1
   · rw [h2]
     show xL _ s = xL (10 * (a : Int) + ((c.toNat : Int) - 48)) s
     congr 1; omega
theorem MY {s : bg} (h0 : s ≠ []) (h : s.all dS = true) : Lib.atoi s = some (tj s) := by
 cases s with
 | nil => exact absurd rfl h0
 | cons c s =>
   have h' := h
   simp only [List.all_cons, bP] at h'
   have hc := jV.1 h'.1
   obtain ⟨m, h1, h2⟩ := wS (c :: s) 0 h
   have c45 : (c == 45) = false := by simp; rintro rfl; simp at hc
   have c43 : (c == 43) = false := by simp; rintro rfl; simp at hc
   simp only [Lib.atoi, c45, c43, bm, if_false, Lib.decNat, List.isEmpty_cons, h1, Option.map_some, gq]
   exact h2
end Go.Rip
namespace Go.Rip
theorem vW {s : bg} {k : Nat} {t : bg} (h : fD s = (0, k, t)) : (k = 1 /\ t ∉ kf /\ t.length <= 12 /\ (∃ c r, t = c :: r /\ iQ c = true) /\ t.all cK = true) \/ (k = 2 /\ ∃ c r, t = c :: r /\ dS c = true) \/ (k = 3 /\ t ∈ kf) \/ (k = 4 /\ t ∈ fC) := by
 have bq : (s.takeWhile cK).all cK = true := by
  rw [dP]; intro x hx
  have : ∀ l : bg, x ∈ l.takeWhile cK -> cK x = true := fun l => by
   induction l with
   | nil => simp
   | cons c l ih =>
     simp only [nh]
     split
     · rename_i hc
       intro h
       rcases eA.1 h with rfl | h
       · exact hc
       · exact ih h
     · simp
  exact this s hx
 unfold fD at h
 simp only at h
 split at h
 · split at h
   · rename_i x hx
     simp only [jz, true_and] at h
     obtain ⟨rfl, rfl⟩ := h
     exact .inr (.inr (.inr ⟨rfl, List.mem_of_find?_eq_some hx⟩))
   · simp at h
 · rename_i c r hw
   split at h
   · rename_i hd
     simp only [jz] at h
     obtain ⟨h1, rfl, rfl⟩ := h
     exact .inr (.inl ⟨rfl, c, r, hw, hd⟩)
   · split at h
     · simp at h
     · rename_i hs
       split at h
       · rename_i hk
         simp only [jz, true_and] at h
         obtain ⟨rfl, rfl⟩ := h
         exact .inr (.inr (.inl ⟨rfl, hk⟩))
       · rename_i hk
         split at h
         · simp at h
         · rename_i hl
           simp only [jz, true_and] at h
           obtain ⟨rfl, rfl⟩ := h
           exact .inl ⟨rfl, hk, by omega, ⟨c, r, hw, by simpa using hs⟩, bq⟩
theorem p4.cases {t : Tk} (h : p4 t) : (t.k = 1 /\ t.s ∉ kf) \/ t.k = 2 \/ (t.k = 3 /\ t.s ∈ kf) \/ (t.k = 4 /\ t.s ∈ fC) := by
 rcases vW h.2 with h | h | h | h
 · exact .inl ⟨h.1, h.2.1⟩
 · exact .inr (.inl h.1)
 · exact .inr (.inr (.inl h))
 · exact .inr (.inr (.inr h))
theorem G3 : ∀ w ∈ kf, w ∉ fC := by decide
theorem I6 {L : List Tk} {i : Nat} {w : bg} (h : cC L i w = true) : ∃ t, L[i]? = some t /\ (t.k = 3 \/ t.k = 4) /\ t.s = w := by
 unfold cC at h
 split at h
 · rename_i t ht
   simp only [bP, iZ, beq_iff_eq] at h
   exact ⟨t, ht, h.1, h.2⟩
 · cases h
theorem RB {L : List Tk} {i : Nat} {w : bg} {t : Tk} (ht : L[i]? = some t) (hk : t.k = 3 \/ t.k = 4) (hs : t.s = w) : cC L i w = true := by
 unfold cC; rw [ht]; simp [hs, hk]
theorem RA {L : List Tk} (hL : ∀ t ∈ L, p4 t) {i : Nat} {w : bg} (hw : w ∈ kf) (h : cC L i w = true) : ∃ t, L[i]? = some t /\ t.k = 3 /\ t.s = w := by
 obtain ⟨t, ht, hk, hs⟩ := I6 h
 refine ⟨t, ht, ?_, hs⟩
 rcases hk with hk | hk
 · exact hk
 · rcases (hL t (fB ht)).cases with h | h | h | h
   · omega
   · omega
   · omega
   · rw [hs] at h; exact absurd h.2 (G3 w hw)
def oG (o : Option Tk) : bg := match o with | some t => if t.k = 3 \/ t.k = 4 then t.s else [] | none => []
theorem Bh {L : List Tk} {i : Nat} {w : bg} (hw : w ≠ []) : cC L i w = decide (oG L[i]? = w) := by
 unfold cC oG
 split
 · rename_i t ht
   by_cases h : t.k = 3 \/ t.k = 4
   · by_cases hs : t.s = w <;> simp [ht, h, hs]
   · have h3 : ¬ t.k = 3 := fun e => h (.inl e)
     have h4 : ¬ t.k = 4 := fun e => h (.inr e)
     simp [ht, h3, h4, Ne.symm hw]
 · rename_i ht; simp [ht, Ne.symm hw]
end Go.Rip
