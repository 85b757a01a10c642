/- Lemmas for the proof: no conditions. -/
import Derived.Test.YtnfpmiiopiinbaaGreatDoorRipZz
import Derived.Test.YtnfpmiiopiinbaaGreatDoorRipD
import Derived.Lib.Atoi
set_option linter.unusedVariables false
set_option linter.unusedSimpArgs false
set_option linter.loopingSimpArgs false
namespace Go.Rip
abbrev bf := List UInt8
structure Tk where
 k : Nat
 s : bf
 at_ : Nat
 deriving DecidableEq
structure Nd where
 kind : Int
 text : bf
 n : Int
 m : Int
 at_ : Int
 size : Int
 deriving DecidableEq
def dN (c : UInt8) : Bool := decide (48 <= c.toNat /\ c.toNat <= 57)
def iN (c : UInt8) : Bool := decide (97 <= c.toNat /\ c.toNat <= 122)
def wq (c : UInt8) : Bool := decide (65 <= c.toNat /\ c.toNat <= 90)
def cO (c : UInt8) : Bool := dN c || iN c || wq c
def nW (c : UInt8) : Bool := decide (c.toNat = 10 \/ 32 <= c.toNat /\ c.toNat <= 126)
def Ab (s : bf) : Int := s.foldl (fun n c => min (10 * n + ((c.toNat : Int) - 48)) 1000001) 0
def tq (s : bf) : Int := s.foldl (fun n c => 10 * n + ((c.toNat : Int) - 48)) 0
def iD (s : bf) : Int := if s.all dN = false then 4 else if 1 < s.length /\ s.head? = some 48 then 4 else if 1000000 < Ab s then 3 else 0
def km : List bf := [zz, Eg, MX, MY, oR, Q8, ur, At, kP, nu, gq, Eh, B5, kQ, yd, nv, qU, Q9, mS, qe, wO, B6, oT, WE, Ei, B7, jq, te, fU, oU]
def fD : List bf := [cV, iK, wL, wK, wG, wI, wF, o6, o7, pW, wM, zy, wH, rJ, wJ, zx]
def fE (s : bf) : Int × Nat × bf :=
 let w := s.takeWhile cO
 match w with
 | [] => match fD.find? fun x => x.isPrefixOf s with
   | some x => (0, 4, x)
   | none => (4, 0, [])
 | c :: _ => if dN c then (iD w, 2, w) else if iN c = false then (4, 0, []) else if w ∈ km then (0, 3, w) else if 12 < w.length then (4, 0, []) else (0, 1, w)
inductive Ca where
 | ok (l : List Tk)
 | bad (p : Nat) (e : Int)
def lf : Nat -> bf -> Nat -> List Tk -> Ca
 | 0, _, _, l => .ok l
 | f + 1, s, p, l => match s.drop p with
   | [] => .ok l
   | c :: r => if c.toNat = 32 \/ c.toNat = 10 then lf f s (p + 1) l
     else if c.toNat = 126 then lf f s (p + ((c :: r).takeWhile fun c => c.toNat ≠ 10).length) l
     else match fE (c :: r) with
      | (e, k, t) => if e ≠ 0 then .bad p e else if l.length = 900 then .bad p 5 else lf f s (p + t.length) (l ++ [⟨k, t, p⟩])
def rQ (s : bf) : Nat × Int := if 2500 < s.length then (0, 5) else match s.findIdx? (fun c => !nW c) with | some i => (i, 2) | none => (0, 0)
def nZ (s : bf) : Ca := match rQ s with
 | (p, e) => if e ≠ 0 then .bad p e else lf s.length s 0 []
inductive PR (α : Type) where
 | ok (a : α) (i : Nat)
 | bad (i : Nat)
 | out
def PR.bind {α β : Type} (x : PR α) (f : α -> Nat -> PR β) : PR β := match x with
 | .ok a i => f a i
 | .bad i => .bad i
 | .out => .out
def node (kind : Int) (text : bf) (n m at_ : Int) (kids : List Nd) : List Nd := ⟨kind, text, n, m, at_, (kids.length : Int) + 1⟩ :: kids
section
variable (L : List Tk) (E : Nat)
def eL (i : Nat) : Int := match L[i]? with | some t => t.at_ | none => E
def cF (i : Nat) (w : bf) : Bool := match L[i]? with | some t => (t.k == 3 || t.k == 4) && t.s == w | none => false
def rV (i : Nat) (k : Nat) : Bool := match L[i]? with | some t => t.k == k | none => false
def Di (i : Nat) : Bool := cF L i nv || cF L i ur || cF L i nu
def cI (w : bf) (i : Nat) : PR Unit := if cF L i w = true then .ok () (i + 1) else .bad i
def iU (i : Nat) : PR bf := match L[i]? with | some t => if t.k = 1 then .ok t.s (i + 1) else .bad i | none => .bad i
def kr (i : Nat) : PR Int := match L[i]? with | some t => if t.k = 2 then .ok (tq t.s) (i + 1) else .bad i | none => .bad i
def pR (one : Nat -> PR (List Nd)) : Nat -> List Nd -> Nat -> PR (List Nd)
 | 0, _, _ => .out
 | f + 1, acc, i => if cF L i wH = true then (one (i + 1)).bind fun b j => pR one f (acc ++ b) j else .ok acc i
def wv (one : Nat -> PR (List Nd)) (f : Nat) (i : Nat) : PR (List Nd) := (one i).bind fun a j => pR L one f a j
def yk (i : Nat) : PR (List Nd) := (iU L i).bind fun x j => .ok (node 37 x 0 0 (eL L E i) []) j
def DE (lev : Nat) (i : Nat) : Option Int :=
 if lev = 2 then if cF L i Ei = true then some 17 else none
 else if lev = 3 then if cF L i zz = true then some 18 else none
 else if lev = 5 then if cF L i wL = true then some 20 else if cF L i wK = true then some 21 else none
 else if lev = 6 then if cF L i wG = true then some 22 else if cF L i wI = true then some 23 else none
 else if lev = 7 then if cF L i wF = true then some 24 else none
 else if lev = 8 then if cF L i Eg = true then some 25 else none
 else none
mutual
def um : Nat -> Nat -> PR (List Nd)
 | 0, _ => .out
 | f + 1, i => (cC f i).bind fun a j => x7 f (eL L E j) a 1 j
def x7 : Nat -> Int -> List Nd -> Nat -> Nat -> PR (List Nd)
 | 0, _, _, _, _ => .out
 | f + 1, at_, acc, many, i => if cF L i rJ = true /\ i + 1 < L.length /\ Di L (i + 1) = false then (cC f (i + 1)).bind fun b j => x7 f at_ (acc ++ b) (many + 1) j
   else .ok (if many = 1 then acc else node 9 [] 0 0 at_ acc) i
def cC : Nat -> Nat -> PR (List Nd)
 | 0, _ => .out
 | f + 1, i =>
   if cF L i yd = true then (cC f (i + 1)).bind fun c j => (cI L te j).bind fun _ j => (cC f j).bind fun a j => (cI L kP j).bind fun _ j => (cC f j).bind fun b j => .ok (node 10 [] 0 0 (eL L E i) (c ++ a ++ b)) j
   else if cF L i oU = true then (cC f (i + 1)).bind fun a j => (cI L At j).bind fun _ j => (cC f j).bind fun b j => .ok (node 11 [] 0 0 (eL L E i) (a ++ b)) j
   else if cF L i wO = true then (iU L (i + 1)).bind fun x j => (cI L wJ j).bind fun _ j => (kr L j).bind fun n j => (cI L cV j).bind fun _ j => (kr L j).bind fun m j => (cI L qU j).bind fun _ j => (cC f j).bind fun a j => .ok (node 12 x n m (eL L E i) a) j
   else if cF L i qe = true then (iU L (i + 1)).bind fun x j => (cI L qU j).bind fun _ j => (cC f j).bind fun a j => (cI L kP j).bind fun _ j => (cC f j).bind fun b j => .ok (node 13 x 0 0 (eL L E i) (a ++ b)) j
   else if cF L i oR = true then (cC f (i + 1)).bind fun a j => (cI L kP j).bind fun _ j => (cC f j).bind fun b j => .ok (node 15 [] 0 0 (eL L E i) (a ++ b)) j
   else if cF L i oT = true then (iU L (i + 1)).bind fun x j => (cI L cV j).bind fun _ j => (kr L j).bind fun n j => (cI L qU j).bind fun _ j => (cC f j).bind fun a j => .ok (node 14 x n 0 (eL L E i) a) j
   else if rV L i 1 = true /\ cF L (i + 1) cV = true then (iU L i).bind fun x j => (cI L cV j).bind fun _ j => (cC f j).bind fun a j => .ok (node 16 x 0 0 (eL L E i) a) j
   else ku f 2 i
def ku : Nat -> Nat -> Nat -> PR (List Nd)
 | 0, _, _ => .out
 | f + 1, lev, i =>
   if lev = 9 then tk f i
   else if lev = 4 then if cF L i B6 = true then (ku f 4 (i + 1)).bind fun a j => .ok (node 19 [] 0 0 (eL L E i) a) j else ku f 5 i
   else (ku f (lev + 1) i).bind fun a j => tS f lev a j
def tS : Nat -> Nat -> List Nd -> Nat -> PR (List Nd)
 | 0, _, _, _ => .out
 | f + 1, lev, left, i => match DE L lev i with
   | none => .ok left i
   | some kind => if lev = 8 then (kr L (i + 1)).bind fun n j => tS f lev (node kind [] n 0 (eL L E i) left) j
     else (ku f (lev + 1) (i + 1)).bind fun b j => if lev = 5 then .ok (node kind [] 0 0 (eL L E i) (left ++ b)) j else tS f lev (node kind [] 0 0 (eL L E i) (left ++ b)) j
def tk : Nat -> Nat -> PR (List Nd)
 | 0, _ => .out
 | f + 1, i =>
   if cF L i fU = true then .ok (node 27 [] 0 0 (eL L E i) []) (i + 1)
   else if cF L i gq = true then .ok (node 28 [] 0 0 (eL L E i) []) (i + 1)
   else if cF L i jq = true then .ok (node 29 [] 0 0 (eL L E i) []) (i + 1)
   else if cF L i kQ = true then .ok (node 30 [] 0 0 (eL L E i) []) (i + 1)
   else if cF L i mS = true then (iU L (i + 1)).bind fun x j => .ok (node 31 x 0 0 (eL L E i) []) j
   else if cF L i o6 = true then (iU L (i + 1)).bind fun x j => .ok (node 32 x 0 0 (eL L E i) []) j
   else if cF L i o7 = true then (um f (i + 1)).bind fun a j => (cI L pW j).bind fun _ j => .ok a j
   else if rV L i 2 = true then (kr L i).bind fun n j => .ok (node 26 [] n 0 (eL L E i) []) j
   else (iU L i).bind fun x j => if cF L j o7 = true then (oA f (j + 1)).bind fun a j => (pK f a j).bind fun a j => (cI L pW j).bind fun _ j => .ok (node 34 x 0 0 (eL L E i) a) j
    else .ok (node 33 x 0 0 (eL L E i) []) j
def pK : Nat -> List Nd -> Nat -> PR (List Nd)
 | 0, _, _ => .out
 | f + 1, acc, i => if cF L i wH = true then (oA f (i + 1)).bind fun b j => pK f (acc ++ b) j else .ok acc i
def oA : Nat -> Nat -> PR (List Nd)
 | 0, _ => .out
 | f + 1, i =>
   if cF L i Eh = true then (cI L o7 (i + 1)).bind fun _ j => (wv L (yk L E) (L.length + 1) j).bind fun a j => (cI L pW j).bind fun _ j => (cC f j).bind fun b j => .ok (node 35 [] 0 0 (eL L E i) (a ++ b)) j
   else if cF L i wM = true then (cI L B5 (i + 1)).bind fun _ j => (cC f j).bind fun a j => (cI L rJ j).bind fun _ j => (cI L B7 j).bind fun _ j => (yk L E j).bind fun b j => (cI L zx j).bind fun _ j => (cC f j).bind fun c j => (cI L zy j).bind fun _ j => .ok (node 36 [] 0 0 (eL L E i) (a ++ b ++ c)) j
   else um f i
end
def fuel : Nat := 40 * (L.length + 2)
end
end Go.Rip
namespace Go.Rip
def Gd {α : Type} (n lo lb : Nat) : PR α -> Prop
 | .ok _ j => lo <= j /\ j <= n
 | .bad j => lb <= j /\ j <= n
 | .out => False
section
variable {α β : Type} {n lo Bm lb i : Nat} {L : List Tk} {E : Nat}
theorem Gd.bind {x : PR α} {f : α -> Nat -> PR β} (h : Gd n lo lb x) (k : ∀ a j, lo <= j -> j <= n -> Gd n Bm lb (f a j)) : Gd n Bm lb (x.bind f) := by
 cases x with
 | ok a j => exact k a j h.1 h.2
 | bad j => exact h
 | out => exact h.elim
theorem Gd.ite {c : Prop} [Decidable c] {x y : PR α} (h : c -> Gd n lo lb x) (k : ¬ c -> Gd n lo lb y) : Gd n lo lb (if c then x else y) := by
 split
 · exact h ‹_›
 · exact k ‹_›
theorem Gd.low {x : PR α} (h : Gd n lo lb x) (k : Bm <= lo) : Gd n Bm lb x := by
 cases x with
 | ok a j => exact ⟨Nat.le_trans k h.1, h.2⟩
 | bad j => exact h
 | out => exact h
theorem Gd.N6 {lb' : Nat} {x : PR α} (h : Gd n lo lb x) (k : lb' <= lb) : Gd n lo lb' x := by
 cases x with
 | ok a j => exact h
 | bad j => exact ⟨Nat.le_trans k h.1, h.2⟩
 | out => exact h
theorem Gd.at' {lb' : Nat} {x : PR α} (h : Gd n lo lb x) (k : Bm <= lo) (k' : lb' <= lb) : Gd n Bm lb' x := (h.low k).N6 k'
theorem dh {w : bf} (h : cF L i w = true) : i < L.length := by
 unfold cF at h
 split at h
 · rename_i t ht; exact (dm.1 ht).1
 · cases h
theorem RB {k : Nat} (h : rV L i k = true) : i < L.length := by
 unfold rV at h
 split at h
 · rename_i t ht; exact (dm.1 ht).1
 · cases h
theorem dS {w : bf} (h : i <= L.length) : Gd L.length (i + 1) i (cI L w i) := by
 unfold cI
 exact .ite (fun c => ⟨df _, dh c⟩) fun _ => ⟨df _, h⟩
theorem lI (h : i <= L.length) : Gd L.length (i + 1) i (iU L i) := by
 unfold iU
 split
 · rename_i t ht
   have := (dm.1 ht).1
   exact .ite (fun c => ⟨df _, this⟩) fun _ => ⟨df _, h⟩
 · exact ⟨df _, h⟩
theorem qG (h : i <= L.length) : Gd L.length (i + 1) i (kr L i) := by
 unfold kr
 split
 · rename_i t ht
   have := (dm.1 ht).1
   exact .ite (fun c => ⟨df _, this⟩) fun _ => ⟨df _, h⟩
 · exact ⟨df _, h⟩
theorem Dv {one : Nat -> PR (List Nd)} (h1 : ∀ i, i <= L.length -> Gd L.length (i + 1) i (one i)) : ∀ (f : Nat) (acc : List Nd) (i : Nat), i <= L.length -> L.length - i < f -> Gd L.length i i (pR L one f acc i)
 | 0, acc, i, hi, hf => by omega
 | f + 1, acc, i, hi, hf => by
   unfold pR
   refine .ite (fun c => ?_) fun _ => ⟨df _, hi⟩
   have := dh c
   refine ((h1 (i + 1) this).N6 (lb' := i) (by omega)).bind fun b j h2 h3 => ?_
   exact (Dv h1 f _ j h3 (by omega)).at' (by omega) (by omega)
theorem N4 {one : Nat -> PR (List Nd)} (h1 : ∀ i, i <= L.length -> Gd L.length (i + 1) i (one i)) {f : Nat} (hi : i <= L.length) (hf : L.length - i <= f) (h0 : 0 < f) : Gd L.length (i + 1) i (wv L one f i) := by
 unfold wv
 refine (h1 i hi).bind fun a j h2 h3 => ?_
 exact (Dv h1 f _ j h3 (by omega)).at' (by omega) (by omega)
theorem tm (h : i <= L.length) : Gd L.length (i + 1) i (yk L E i) := by
 unfold yk
 exact (lI h).bind fun a j h2 h3 => ⟨h2, h3⟩
theorem Gd.step {Zy Zu : Nat} {x : PR α} {f : α -> Nat -> PR β} (h : Gd n Zy Zu x) (hb : lb <= Zu) (k : ∀ a j, Zy <= j -> j <= n -> Gd n Bm lb (f a j)) : Gd n Bm lb (x.bind f) := (h.N6 hb).bind k
theorem F6 {lev : Nat} {k : Int} (h : DE L lev i = some k) : i < L.length := by
 unfold DE at h
 repeat' (split at h)
 all_goals first
  | (cases h; done)
  | exact dh ‹_›
theorem zR : ∀ f : Nat,
 (∀ i, i <= L.length -> 40 * (L.length - i) + 11 <= f -> Gd L.length (i + 1) i (um L E f i)) /\
 (∀ i at_ acc many, i <= L.length -> 40 * (L.length - i) + 1 <= f -> Gd L.length i i (x7 L E f at_ acc many i)) /\
 (∀ i, i <= L.length -> 40 * (L.length - i) + 10 <= f -> Gd L.length (i + 1) i (cC L E f i)) /\
 (∀ i lev, i <= L.length -> lev <= 9 -> 40 * (L.length - i) + (11 - lev) <= f -> Gd L.length (i + 1) i (ku L E f lev i)) /\
 (∀ i lev left, i <= L.length -> lev <= 8 -> 40 * (L.length - i) + 1 <= f -> Gd L.length i i (tS L E f lev left i)) /\
 (∀ i, i <= L.length -> 40 * (L.length - i) + 1 <= f -> Gd L.length (i + 1) i (tk L E f i)) /\
 (∀ i acc, i <= L.length -> 40 * (L.length - i) + 1 <= f -> Gd L.length i i (pK L E f acc i)) /\
 (∀ i, i <= L.length -> 40 * (L.length - i) + 12 <= f -> Gd L.length (i + 1) i (oA L E f i)) := by
 intro f
 induction f with
 | zero => refine ⟨?_, ?_, ?_, ?_, ?_, ?_, ?_, ?_⟩ <;> intros <;> omega
 | succ f ih =>
   obtain ⟨iT, iS, iF, iO, iP, iA, iG, iR⟩ := ih
   refine ⟨?_, ?_, ?_, ?_, ?_, ?_, ?_, ?_⟩
   · intro i hi hf
     rw [um]
     refine (iF i hi (by omega)).bind fun a j h1 h2 => ?_
     exact (iS j _ _ _ h2 (by omega)).at' (by omega) (by omega)
   · intro i at_ acc many hi hf
     rw [x7]
     refine .ite (fun c => ?_) fun _ => ⟨df _, hi⟩
     have h0 := dh c.1
     refine (iF (i + 1) (by omega) (by omega)).step (by omega) fun a j h1 h2 => ?_
     exact (iS j _ _ _ h2 (by omega)).at' (by omega) (by omega)
   · intro i hi hf
     rw [cC]
     refine .ite (fun c => ?_) fun _ => .ite (fun c => ?_) fun _ => .ite (fun c => ?_) fun _ => .ite (fun c => ?_) fun _ => .ite (fun c => ?_) fun _ => .ite (fun c => ?_) fun _ => .ite (fun c => ?_) fun _ => ?_
     · have h0 := dh c
       refine (iF (i + 1) (by omega) (by omega)).step (by omega) fun a j h1 h2 => (dS h2).step (by omega) fun a j h3 h4 => (iF j (by omega) (by omega)).step (by omega) fun a j h5 h6 => (dS h6).step (by omega) fun a j h7 h8 => (iF j (by omega) (by omega)).step (by omega) fun a j h9 nD => ⟨by omega, nD⟩
     · have h0 := dh c
       exact (iF (i + 1) (by omega) (by omega)).step (by omega) fun a j h1 h2 => (dS h2).step (by omega) fun a j h3 h4 => (iF j (by omega) (by omega)).step (by omega) fun a j h5 h6 => ⟨by omega, h6⟩
     · have h0 := dh c
       exact (lI h0).step (by omega) fun a j h1 h2 => (dS h2).step (by omega) fun a j h3 h4 => (qG h4).step (by omega) fun a j h5 h6 => (dS h6).step (by omega) fun a j h7 h8 => (qG h8).step (by omega) fun a j h9 nD => (dS nD).step (by omega) fun a j uB u9 => (iF j (by omega) (by omega)).step (by omega) fun a j h13 Uj => ⟨by omega, Uj⟩
     · have h0 := dh c
       exact (lI h0).step (by omega) fun a j h1 h2 => (dS h2).step (by omega) fun a j h3 h4 => (iF j (by omega) (by omega)).step (by omega) fun a j h5 h6 => (dS h6).step (by omega) fun a j h7 h8 => (iF j (by omega) (by omega)).step (by omega) fun a j h9 nD => ⟨by omega, nD⟩
     · have h0 := dh c
       exact (iF (i + 1) (by omega) (by omega)).step (by omega) fun a j h1 h2 => (dS h2).step (by omega) fun a j h3 h4 => (iF j (by omega) (by omega)).step (by omega) fun a j h5 h6 => ⟨by omega, h6⟩
     · have h0 := dh c
       exact (lI h0).step (by omega) fun a j h1 h2 => (dS h2).step (by omega) fun a j h3 h4 => (qG h4).step (by omega) fun a j h5 h6 => (dS h6).step (by omega) fun a j h7 h8 => (iF j (by omega) (by omega)).step (by omega) fun a j h9 nD => ⟨by omega, nD⟩
     · have h0 := RB c.1
       exact (lI hi).step (by omega) fun a j h1 h2 => (dS h2).step (by omega) fun a j h3 h4 => (iF j (by omega) (by omega)).step (by omega) fun a j h5 h6 => ⟨by omega, h6⟩
     · exact iO i 2 hi (by omega) (by omega)
   · intro i lev hi hl hf
     rw [ku]
     refine .ite (fun c => ?_) fun c9 => .ite (fun c => .ite (fun d => ?_) fun d => ?_) fun c4 => ?_
     · exact iA i hi (by omega)
     · have h0 := dh d
       exact (iO (i + 1) 4 (by omega) (by omega) (by omega)).step (by omega) fun a j h1 h2 => ⟨by omega, h2⟩
     · exact iO i 5 hi (by omega) (by omega)
     · refine (iO i (lev + 1) hi (by omega) (by omega)).bind fun a j h1 h2 => ?_
       exact (iP j lev a h2 (by omega) (by omega)).at' (by omega) (by omega)
   · intro i lev left hi hl hf
     rw [tS]
     split
     · exact ⟨df _, hi⟩
     · rename_i k hk
       have h0 := F6 hk
       refine .ite (fun c => ?_) fun c => ?_
       · exact (qG h0).step (by omega) fun a j h1 h2 => (iP j lev _ h2 hl (by omega)).at' (by omega) (by omega)
       · refine (iO (i + 1) (lev + 1) h0 (by omega) (by omega)).step (by omega) fun a j h1 h2 => .ite (fun _ => ⟨by omega, h2⟩) fun _ => ?_
         exact (iP j lev _ h2 hl (by omega)).at' (by omega) (by omega)
   · intro i hi hf
     rw [tk]
     refine .ite (fun c => ⟨df _, dh c⟩) fun _ => .ite (fun c => ⟨df _, dh c⟩) fun _ => .ite (fun c => ⟨df _, dh c⟩) fun _ => .ite (fun c => ⟨df _, dh c⟩) fun _ => .ite (fun c => ?_) fun _ => .ite (fun c => ?_) fun _ => .ite (fun c => ?_) fun _ => .ite (fun c => ?_) fun _ => ?_
     · have h0 := dh c
       exact (lI h0).step (by omega) fun a j h1 h2 => ⟨by omega, h2⟩
     · have h0 := dh c
       exact (lI h0).step (by omega) fun a j h1 h2 => ⟨by omega, h2⟩
     · have h0 := dh c
       exact (iT (i + 1) (by omega) (by omega)).step (by omega) fun a j h1 h2 => (dS h2).step (by omega) fun a j h3 h4 => ⟨by omega, h4⟩
     · exact (qG hi).step (by omega) fun a j h1 h2 => ⟨by omega, h2⟩
     · refine (lI hi).step (by omega) fun a j h1 h2 => .ite (fun c => ?_) fun _ => ⟨by omega, h2⟩
       have h0 := dh c
       exact (iR (j + 1) (by omega) (by omega)).step (by omega) fun a j h3 h4 => (iG j _ h4 (by omega)).step (by omega) fun a j h5 h6 => (dS h6).step (by omega) fun a j h7 h8 => ⟨by omega, h8⟩
   · intro i acc hi hf
     rw [pK]
     refine .ite (fun c => ?_) fun _ => ⟨df _, hi⟩
     have h0 := dh c
     exact (iR (i + 1) (by omega) (by omega)).step (by omega) fun a j h1 h2 => (iG j _ h2 (by omega)).at' (by omega) (by omega)
   · intro i hi hf
     rw [oA]
     refine .ite (fun c => ?_) fun _ => .ite (fun c => ?_) fun _ => ?_
     · have h0 := dh c
       exact (dS h0).step (by omega) fun a j h1 h2 => (N4 (fun i hi => tm hi) h2 (by omega) (by omega)).step (by omega) fun a j h3 h4 => (dS h4).step (by omega) fun a j h5 h6 => (iF j (by omega) (by omega)).step (by omega) fun a j h7 h8 => ⟨by omega, h8⟩
     · have h0 := dh c
       exact (dS h0).step (by omega) fun a j h1 h2 => (iF j (by omega) (by omega)).step (by omega) fun a j h3 h4 => (dS h4).step (by omega) fun a j h5 h6 => (dS h6).step (by omega) fun a j h7 h8 => (tm h8).step (by omega) fun a j h9 nD => (dS nD).step (by omega) fun a j uB u9 => (iF j (by omega) (by omega)).step (by omega) fun a j h13 Uj => (dS Uj).step (by omega) fun a j h15 h16 => ⟨by omega, h16⟩
     · exact iT i hi (by omega)
end
end Go.Rip
namespace Go.Rip
def qh (t : Tk) : Prop := t.s ≠ [] /\ fE t.s = (0, t.k, t.s)
theorem sX (p : UInt8 -> Bool) : ∀ l : bf, (l.takeWhile p).takeWhile p = l.takeWhile p
 | [] => rfl
 | c :: l => by
   simp only [nj]
   cases h : p c with
   | true => simp [h, sX p l]
   | false => rfl
theorem DR : ∀ x ∈ fD, fE x = (0, 4, x) /\ x ≠ [] := by decide
theorem Ap {s : bf} {k : Nat} {t : bf} (h : fE s = (0, k, t)) : qh ⟨k, t, 0⟩ /\ t <+: s := by
 have hid := sX cO s
 have qx := qM cO (l := s)
 unfold fE at h
 simp only at h
 split at h
 · rename_i hw
   split at h
   · rename_i x hx
     simp only [jz, true_and] at h
     obtain ⟨rfl, rfl⟩ := h
     have hm := List.mem_of_find?_eq_some hx
     have hp := List.find?_some hx
     exact ⟨⟨(DR _ hm).2, (DR _ hm).1⟩, List.isPrefixOf_iff_prefix.1 hp⟩
   · simp at h
 · rename_i c r hw
   have key : ∀ {e : Int} {k : Nat}, fE (s.takeWhile cO) = (e, k, s.takeWhile cO) -> e = 0 -> qh ⟨k, s.takeWhile cO, 0⟩ /\ s.takeWhile cO <+: s := fun h1 h2 => ⟨⟨by simp [hw], by rw [h1, h2]⟩, qx⟩
   split at h
   · rename_i hd
     simp only [jz] at h
     obtain ⟨h1, rfl, rfl⟩ := h
     refine key ?_ h1
     unfold fE
     simp only [hid]
     rw [hw]
     simp only [if_pos hd]
   · rename_i hd
     split at h
     · simp at h
     · rename_i hs
       split at h
       · rename_i hk
         simp only [jz, true_and] at h
         obtain ⟨rfl, rfl⟩ := h
         refine key ?_ rfl
         unfold fE
         simp only [hid]
         rw [hw] at hk ⊢
         simp only [if_neg hd, if_neg hs, if_pos hk]
       · rename_i hk
         split at h
         · simp at h
         · rename_i hl
           simp only [jz, true_and] at h
           obtain ⟨rfl, rfl⟩ := h
           refine key ?_ rfl
           unfold fE
           simp only [hid]
           rw [hw] at hk hl ⊢
           simp only [if_neg hd, if_neg hs, if_neg hk, if_neg hl]
theorem wu : ∀ (f : Nat) (s : bf) (p : Nat) (l : List Tk) {L : List Tk}, lf f s p l = .ok L -> (∀ t ∈ l, qh t) -> l.length <= 900 -> (∀ t ∈ L, qh t) /\ L.length <= 900
 | 0, s, p, l, L, h, hl, hn => by simp only [lf, Ca.ok.injEq] at h; subst h; exact ⟨hl, hn⟩
 | f + 1, s, p, l, L, h, hl, hn => by
   simp only [lf] at h
   split at h
   · simp only [Ca.ok.injEq] at h; subst h; exact ⟨hl, hn⟩
   · split at h
     · exact wu f s _ l h hl hn
     · split at h
       · exact wu f s _ l h hl hn
       · split at h
         · cases h
         · rename_i he
           split at h
           · cases h
           · rename_i hc
             refine wu f s _ _ h (fun t ht => ?_) (by simp; omega)
             simp only [fC, lg] at ht
             rcases ht with ht | rfl
             · exact hl t ht
             · have jC : (fE _).1 = 0 := Decidable.not_not.1 he
               exact (Ap (Prod.ext jC rfl)).1
theorem RH {s : bf} {L : List Tk} (h : nZ s = .ok L) : (∀ t ∈ L, qh t) /\ L.length <= 900 := by
 unfold nZ at h
 split at h
 split at h
 · cases h
 · exact wu _ _ _ _ h (by simp) (by simp)
end Go.Rip
namespace Go.Rip
def gm (a : Int) (s : bf) : Int := s.foldl (fun n c => min (10 * n + ((c.toNat : Int) - 48)) 1000001) a
def xF (a : Int) (s : bf) : Int := s.foldl (fun n c => 10 * n + ((c.toNat : Int) - 48)) a
theorem jY {c : UInt8} : dN c = true ↔ 48 <= c.toNat /\ c.toNat <= 57 := by simp [dN]
theorem Aa : ∀ (s : bf) (a : Int), a <= 1000001 -> gm a s <= 1000001
 | [], a, h => h
 | c :: s, a, h => Aa s (min (10 * a + ((c.toNat : Int) - 48)) 1000001) (by omega)
theorem p9 : ∀ (s : bf) (a : Int), s.all dN = true -> 0 <= a -> min a 1000001 <= gm a s
 | [], a, _, h => by simp [gm]; omega
 | c :: s, a, hd, h => by
   simp only [List.all_cons, bN] at hd
   have h1 := jY.1 hd.1
   have := p9 s (min (10 * a + ((c.toNat : Int) - 48)) 1000001) hd.2 (by omega)
   have e : gm a (c :: s) = gm (min (10 * a + ((c.toNat : Int) - 48)) 1000001) s := rfl
   omega
theorem Bt : ∀ (s : bf) (a : Int), s.all dN = true -> 0 <= a -> gm a s <= 1000000 -> gm a s = xF a s
 | [], a, _, _, _ => rfl
 | c :: s, a, hd, h, hl => by
   simp only [List.all_cons, bN] at hd
   have h1 := jY.1 hd.1
   have e : gm a (c :: s) = gm (min (10 * a + ((c.toNat : Int) - 48)) 1000001) s := rfl
   have e2 : xF a (c :: s) = xF (10 * a + ((c.toNat : Int) - 48)) s := rfl
   have hg := p9 s (min (10 * a + ((c.toNat : Int) - 48)) 1000001) hd.2 (by omega)
   have hm : min (10 * a + ((c.toNat : Int) - 48)) 1000001 = 10 * a + ((c.toNat : Int) - 48) := by omega
   rw [hm] at e
   rw [e, e2]
   exact Bt s _ hd.2 (by omega) (by omega)
theorem DB : ∀ (s : bf) (a : Int), s.all dN = true -> 1 <= a -> gm a s <= 1000000 -> 10 ^ s.length * a <= gm a s
 | [], a, _, _, _ => by simp [gm]
 | c :: s, a, hd, h, hl => by
   simp only [List.all_cons, bN] at hd
   have h1 := jY.1 hd.1
   have e : gm a (c :: s) = gm (min (10 * a + ((c.toNat : Int) - 48)) 1000001) s := rfl
   have hg := p9 s (min (10 * a + ((c.toNat : Int) - 48)) 1000001) hd.2 (by omega)
   have hm : min (10 * a + ((c.toNat : Int) - 48)) 1000001 = 10 * a + ((c.toNat : Int) - 48) := by omega
   rw [hm] at e
   rw [e] at hl ⊢
   have := DB s _ hd.2 (by omega) hl
   have hp : (0 : Int) < 10 ^ s.length := Int.pow_pos (by omega)
   have : 10 ^ s.length * (10 * a) <= 10 ^ s.length * (10 * a + ((c.toNat : Int) - 48)) := Int.mul_le_mul_of_nonneg_left (by omega) (by omega)
   rw [jy, Int.pow_succ, Int.mul_assoc]
   omega
theorem F2 {s : bf} (h : iD s = 0) : s.all dN = true /\ ¬ (1 < s.length /\ s.head? = some 48) /\ Ab s <= 1000000 := by
 unfold iD at h
 split at h
 · cases h
 · rename_i h1
   split at h
   · cases h
   · rename_i h2
     split at h
     · cases h
     · rename_i h3; exact ⟨by simpa using h1, h2, by omega⟩
theorem JH {s : bf} (h0 : s ≠ []) (h : iD s = 0) : 1 <= s.length /\ s.length <= 7 /\ Ab s = tq s /\ 0 <= tq s /\ tq s <= 1000000 := by
 obtain ⟨h1, h2, h3⟩ := F2 h
 have hv : Ab s = gm 0 s := rfl
 have hd : tq s = xF 0 s := rfl
 have e := Bt s 0 h1 (by omega) (by omega)
 have hg := p9 s 0 h1 (by omega)
 refine ⟨?_, ?_, by omega, by omega, by omega⟩
 · cases s with
   | nil => exact absurd rfl h0
   | cons c s => simp
 · cases s with
   | nil => simp
   | cons c s =>
     simp only [List.all_cons, bN] at h1
     have hc := jY.1 h1.1
     rcases eD s.length 1 with hl | hl
     · simp; omega
     · have hc0 : c ≠ 48 := fun e => h2 ⟨by simp; omega, by simp [e]⟩
       have wX : c.toNat ≠ 48 := fun e => hc0 (by apply UInt8.toNat_inj.1; simpa using e)
       have e1 : gm 0 (c :: s) = gm ((c.toNat : Int) - 48) s := by
        show gm (min (10 * 0 + ((c.toNat : Int) - 48)) 1000001) s = _
        congr 1; omega
       have hlen := DB s ((c.toNat : Int) - 48) h1.2 (by omega) (by omega)
       rcases eD s.length 7 with hl | hl
       · simp; omega
       · exfalso
         have h7 : (10 : Int) ^ 7 <= 10 ^ s.length := by
          have := Nat.pow_le_pow_right (n := 10) (by omega) hl
          exact_mod_cast this
         have : (10 : Int) ^ s.length * 1 <= 10 ^ s.length * ((c.toNat : Int) - 48) := Int.mul_le_mul_of_nonneg_left (by omega) (by omega)
         omega
theorem O7 {s : bf} (h : fE s = (0, 2, s)) (h0 : s ≠ []) : iD s = 0 := by
 unfold fE at h
 simp only at h
 split at h
 · split at h <;> simp at h
 · rename_i c r hw
   split at h
   · simp only [jz, true_and] at h
     rw [h.2] at h; exact h.1
   · split at h
     · simp at h
     · split at h
       · simp at h
       · split at h <;> simp at h
theorem RP {t : Tk} (h : qh t) (hk : t.k = 2) : iD t.s = 0 := O7 (by rw [h.2, hk]) h.1
theorem wR : ∀ (s : bf) (a : Nat), s.all dN = true -> ∃ m, Lib.decFrom a s = some m /\ (m : Int) = xF a s
 | [], a, _ => ⟨a, rfl, rfl⟩
 | c :: s, a, h => by
   simp only [List.all_cons, bN] at h
   have hc := jY.1 h.1
   obtain ⟨m, h1, h2⟩ := wR s (a * 10 + (c.toNat - 48)) h.2
   refine ⟨m, ?_, ?_⟩
   · simp only [Lib.decFrom, Lib.digitVal, if_pos hc]; exact h1
   · rw [h2]
     show xF _ s = xF (10 * (a : Int) + ((c.toNat : Int) - 48)) s
     congr 1; omega
theorem Nc {s : bf} (h0 : s ≠ []) (h : s.all dN = true) : Lib.atoi s = some (tq s) := by
 cases s with
 | nil => exact absurd rfl h0
 | cons c s =>
   have h' := h
   simp only [List.all_cons, bN] at h'
   have hc := jY.1 h'.1
   obtain ⟨m, h1, h2⟩ := wR (c :: s) 0 h
   have c45 : (c == 45) = false := by simp; rintro rfl; simp at hc
   have c43 : (c == 43) = false := by simp; rintro rfl; simp at hc
   simp only [Lib.atoi, c45, c43, bq, if_false, Lib.decNat, List.isEmpty_cons, h1, Option.map_some, gr]
   exact h2
end Go.Rip
namespace Go.Rip
theorem vW {s : bf} {k : Nat} {t : bf} (h : fE s = (0, k, t)) : (k = 1 /\ t ∉ km /\ t.length <= 12 /\ (∃ c r, t = c :: r /\ iN c = true) /\ t.all cO = true) \/ (k = 2 /\ ∃ c r, t = c :: r /\ dN c = true) \/ (k = 3 /\ t ∈ km) \/ (k = 4 /\ t ∈ fD) := by
 have bw : (s.takeWhile cO).all cO = true := by
  rw [dJ]; intro x hx
  have : ∀ l : bf, x ∈ l.takeWhile cO -> cO x = true := fun l => by
   induction l with
   | nil => simp
   | cons c l ih =>
     simp only [nj]
     split
     · rename_i hc
       intro h
       rcases ep.1 h with rfl | h
       · exact hc
       · exact ih h
     · simp
  exact this s hx
 unfold fE at h
 simp only at h
 split at h
 · split at h
   · rename_i x hx
     simp only [jz, true_and] at h
     obtain ⟨rfl, rfl⟩ := h
     exact .inr (.inr (.inr ⟨rfl, List.mem_of_find?_eq_some hx⟩))
   · simp at h
 · rename_i c r hw
   split at h
   · rename_i hd
     simp only [jz] at h
     obtain ⟨h1, rfl, rfl⟩ := h
     exact .inr (.inl ⟨rfl, c, r, hw, hd⟩)
   · split at h
     · simp at h
     · rename_i hs
       split at h
       · rename_i hk
         simp only [jz, true_and] at h
         obtain ⟨rfl, rfl⟩ := h
         exact .inr (.inr (.inl ⟨rfl, hk⟩))
       · rename_i hk
         split at h
         · simp at h
         · rename_i hl
           simp only [jz, true_and] at h
           obtain ⟨rfl, rfl⟩ := h
           exact .inl ⟨rfl, hk, by omega, ⟨c, r, hw, by simpa using hs⟩, bw⟩
theorem qh.cases {t : Tk} (h : qh t) : (t.k = 1 /\ t.s ∉ km) \/ t.k = 2 \/ (t.k = 3 /\ t.s ∈ km) \/ (t.k = 4 /\ t.s ∈ fD) := by
 rcases vW h.2 with h | h | h | h
 · exact .inl ⟨h.1, h.2.1⟩
 · exact .inr (.inl h.1)
 · exact .inr (.inr (.inl h))
 · exact .inr (.inr (.inr h))
theorem He : ∀ w ∈ km, w ∉ fD := by decide
theorem Jj {L : List Tk} {i : Nat} {w : bf} (h : cF L i w = true) : ∃ t, L[i]? = some t /\ (t.k = 3 \/ t.k = 4) /\ t.s = w := by
 unfold cF at h
 split at h
 · rename_i t ht
   simp only [bN, ja, beq_iff_eq] at h
   exact ⟨t, ht, h.1, h.2⟩
 · cases h
theorem RD {L : List Tk} {i : Nat} {w : bf} {t : Tk} (ht : L[i]? = some t) (hk : t.k = 3 \/ t.k = 4) (hs : t.s = w) : cF L i w = true := by
 unfold cF; rw [ht]; simp [hs, hk]
theorem RC {L : List Tk} (hL : ∀ t ∈ L, qh t) {i : Nat} {w : bf} (hw : w ∈ km) (h : cF L i w = true) : ∃ t, L[i]? = some t /\ t.k = 3 /\ t.s = w := by
 obtain ⟨t, ht, hk, hs⟩ := Jj h
 refine ⟨t, ht, ?_, hs⟩
 rcases hk with hk | hk
 · exact hk
 · rcases (hL t (fi ht)).cases with h | h | h | h
   · omega
   · omega
   · omega
   · rw [hs] at h; exact absurd h.2 (He w hw)
def oO (o : Option Tk) : bf := match o with | some t => if t.k = 3 \/ t.k = 4 then t.s else [] | none => []
theorem Be {L : List Tk} {i : Nat} {w : bf} (hw : w ≠ []) : cF L i w = decide (oO L[i]? = w) := by
 unfold cF oO
 split
 · rename_i t ht
   by_cases h : t.k = 3 \/ t.k = 4
   · by_cases hs : t.s = w <;> simp [ht, h, hs]
   · have h3 : ¬ t.k = 3 := fun e => h (.inl e)
     have h4 : ¬ t.k = 4 := fun e => h (.inr e)
     simp [ht, h3, h4, Ne.symm hw]
 · rename_i ht; simp [ht, Ne.symm hw]
end Go.Rip
