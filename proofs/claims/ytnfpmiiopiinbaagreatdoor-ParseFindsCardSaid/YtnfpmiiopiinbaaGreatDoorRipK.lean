/- Lemmas for the proof: no conditions. -/
import Derived.Test.YtnfpmiiopiinbaaGreatDoorRipZz
import Derived.Test.YtnfpmiiopiinbaaGreatDoorRipI
set_option linter.unusedVariables false
set_option linter.unusedSimpArgs false
set_option linter.loopingSimpArgs false
namespace Go.Rip
inductive qf where
 | item | type | base | term | arg | kind (k : Int)
def fp (k : Int) : Bool := decide (9 <= k /\ k <= 34)
def jQ (k : Int) : Bool := decide (k = 6 \/ k = 7)
def p8 (k : Int) : Bool := decide (k = 6 \/ k = 7 \/ k = 8)
def oE (k : Int) : Bool := decide (2 <= k /\ k <= 4)
def jP (k : Int) : Bool := decide (9 <= k /\ k <= 36)
def qf.is : qf -> Int -> Bool
 | .item, k => oE k
 | .type, k => p8 k
 | .base, k => jQ k
 | .term, k => fp k
 | .arg, k => jP k
 | .kind c, k => decide (k = c)
structure mh where
 c : qf
 least : Nat
 my : Nat
structure Ax where
 text : Bool
 n : Bool
 m : Bool
 kids : List mh
def et (k : Int) : Option Ax :=
 if k = 1 then some ⟨false, false, false, [⟨.item, 0, 900⟩]⟩
 else if k = 2 then some ⟨true, false, false, [⟨.type, 1, 1⟩]⟩
 else if k = 3 \/ k = 4 then some ⟨true, false, false, [⟨.kind 5, 0, 900⟩, ⟨.base, 1, 1⟩, ⟨.term, 1, 1⟩]⟩
 else if k = 5 then some ⟨true, false, false, [⟨.type, 1, 1⟩]⟩
 else if k = 6 \/ k = 7 then some ⟨false, true, false, []⟩
 else if k = 8 then some ⟨false, false, false, [⟨.base, 2, 900⟩]⟩
 else if k = 9 then some ⟨false, false, false, [⟨.term, 2, 900⟩]⟩
 else if k = 10 then some ⟨false, false, false, [⟨.term, 3, 3⟩]⟩
 else if k = 11 \/ k = 15 \/ k = 17 \/ k = 18 \/ 20 <= k /\ k <= 24 then some ⟨false, false, false, [⟨.term, 2, 2⟩]⟩
 else if k = 12 then some ⟨true, true, true, [⟨.term, 1, 1⟩]⟩
 else if k = 13 then some ⟨true, false, false, [⟨.term, 2, 2⟩]⟩
 else if k = 14 then some ⟨true, true, false, [⟨.term, 1, 1⟩]⟩
 else if k = 16 then some ⟨true, false, false, [⟨.term, 1, 1⟩]⟩
 else if k = 19 then some ⟨false, false, false, [⟨.term, 1, 1⟩]⟩
 else if k = 25 then some ⟨false, true, false, [⟨.term, 1, 1⟩]⟩
 else if k = 26 then some ⟨false, true, false, []⟩
 else if 27 <= k /\ k <= 30 then some ⟨false, false, false, []⟩
 else if k = 31 \/ k = 32 \/ k = 33 \/ k = 37 then some ⟨true, false, false, []⟩
 else if k = 34 then some ⟨true, false, false, [⟨.arg, 1, 900⟩]⟩
 else if k = 35 then some ⟨false, false, false, [⟨.kind 37, 1, 900⟩, ⟨.term, 1, 1⟩]⟩
 else if k = 36 then some ⟨false, false, false, [⟨.term, 1, 1⟩, ⟨.kind 37, 1, 1⟩, ⟨.term, 1, 1⟩]⟩
 else none
def dp : List Int -> List mh -> Bool
 | ks, [] => ks.isEmpty
 | ks, s :: rest =>
   let many := ((ks.take (min (ks.length - (rest.map (·.least)).sum) s.my)).takeWhile s.c.is).length
   if many < s.least then false else dp (ks.drop many) rest
def iC (s : bf) : Bool := decide (fE s = (0, 1, s))
def gS (n : Int) : Bool := decide (0 <= n /\ n <= 1000000)
def lG (x : Nd) (f : Ax) : Bool := (f.text == (x.text != [])) && (!f.text || iC x.text) && gS x.n && gS x.m && (f.n || x.n == 0) && (f.m || x.m == 0)
inductive Tre where
 | mk (kind : Int) (text : bf) (n m at_ : Int) (kids : List Tre)
namespace Tre
def kind : Tre -> Int | mk k _ _ _ _ _ => k
def text : Tre -> bf | mk _ t _ _ _ _ => t
def n : Tre -> Int | mk _ _ n _ _ _ => n
def m : Tre -> Int | mk _ _ _ m _ _ => m
def at_ : Tre -> Int | mk _ _ _ _ a _ => a
def kids : Tre -> List Tre | mk _ _ _ _ _ ks => ks
mutual
def flat : Tre -> List Nd
 | mk k t n m a ks => node k t n m a (bE ks)
def bE : List Tre -> List Nd
 | [] => []
 | t :: ts => flat t ++ bE ts
end
mutual
def ok : Tre -> Bool
 | mk k t n m a ks => (match et k with
   | some f => lG ⟨k, t, n, m, a, 0⟩ f && dp (ks.map kind) f.kids
   | none => false) && ry ks
def ry : List Tre -> Bool
 | [] => true
 | t :: ts => ok t && ry ts
end
mutual
def deep : Tre -> Nat
 | mk _ _ _ _ _ ks => jF ks
def jF : List Tre -> Nat
 | [] => 0
 | t :: ts => max (deep t + 1) (jF ts)
end
end Tre
namespace Tre
end Tre
end Go.Rip
namespace Go.Rip
def fA (l : List Nd) (en : Int) : Nat -> Nat -> List Nat
 | 0, _ => []
 | f + 1, p => match l[p]? with
   | some x => if (p : Int) < en /\ 0 < x.size then p :: fA l en f (p + x.size.toNat) else []
   | none => []
def hZ : List Nd -> Nat -> List Int -> Bool
 | [], _, _ => false
 | x :: r, n, es => if 60 < (es.filter ((n : Int) < ·)).length then true else hZ r (n + 1) (es.filter ((n : Int) < ·) ++ [(n : Int) + x.size])
def kD (l : List Nd) : Int := match l with | x :: _ => x.size | [] => 0
def qo (l : List Nd) : Bool := hZ l 0 [] || decide (24 < (fA l (kD l) l.length 1).length)
namespace Tre
theorem fR {k : Int} {t : bf} {n m a : Int} {ks : List Tre} : flat (mk k t n m a ks) = ⟨k, t, n, m, a, ((bE ks).length : Int) + 1⟩ :: bE ks := by rw [flat]; rfl
@[simp] theorem pa : bE [] = [] := by rw [bE]
@[simp] theorem c6 {t : Tre} {ts : List Tre} : bE (t :: ts) = flat t ++ bE ts := by rw [bE]
theorem nS : ∀ (l l' : List Tre), bE (l ++ l') = bE l ++ bE l'
 | [], l' => by simp
 | t :: l, l' => by simp [nS l l']
@[simp] theorem abh : ry [] = true := by rw [ry]
@[simp] theorem tQ {t : Tre} {ts : List Tre} : ry (t :: ts) = (ok t && ry ts) := by rw [ry]
theorem y8 : ∀ (l l' : List Tre), ry (l ++ l') = (ry l && ry l')
 | [], l' => by simp
 | t :: l, l' => by simp [y8 l l', Bool.and_assoc]
@[simp] theorem Fm {k : Int} {t : bf} {n m a : Int} {ks : List Tre} : deep (mk k t n m a ks) = jF ks := by rw [deep]
@[simp] theorem gJ : jF [] = 0 := by rw [jF]
@[simp] theorem ke {t : Tre} {ts : List Tre} : jF (t :: ts) = max (deep t + 1) (jF ts) := by rw [jF]
theorem cR : ∀ t : Tre, 0 < t.flat.length
 | mk k t n m a ks => by rw [fR]; simp
theorem nC : ∀ ts : List Tre, ts.length <= (bE ts).length
 | [] => by simp
 | t :: ts => by
   have := nC ts
   have := cR t
   simp; omega
theorem nB : ∀ t : Tre, ∃ x r, t.flat = x :: r /\ x.kind = t.kind /\ x.size = t.flat.length /\ x.text = t.text /\ x.n = t.n /\ x.m = t.m /\ x.at_ = t.at_ /\ r = bE t.kids
 | mk k t n m a ks => ⟨_, _, fR, rfl, by rw [fR]; simp, rfl, rfl, rfl, rfl, rfl⟩
theorem q9 : ∀ (N : Nat) (ts xx : List Tre) (r r' : List Nd), (bE ts).length <= N -> bE ts ++ r = bE xx ++ r' -> (bE ts).length = (bE xx).length -> ts = xx
 | N, [], [], _, _, _, _, _ => rfl
 | N, [], t :: ts, _, _, _, _, h => by have := cR t; simp only [c6, pa, fX, oL] at h; omega
 | N, t :: ts, [], _, _, _, _, h => by have := cR t; simp only [c6, pa, fX, oL] at h; omega
 | 0, t :: ts, _, _, _, hN, _, _ => by have := cR t; simp only [c6, fX] at hN; omega
 | N + 1, mk k t n m a ks :: ts, mk k' t' n' m' a' ks' :: xx, r, r', hN, h, hl => by
   simp only [c6, fR, jV, pw, List.cons.injEq, Nd.mk.injEq, jy, fX] at h hl hN
   obtain ⟨⟨rfl, rfl, rfl, rfl, rfl, hs⟩, h⟩ := h
   have hs : (bE ks).length = (bE ks').length := by omega
   have e := q9 N ks ks' (bE ts ++ r) (bE xx ++ r') (by omega) h hs
   subst e
   have h2 := List.append_cancel_left h
   have e := q9 N ts xx r r' (by omega) h2 (by omega)
   rw [e]
theorem Nz {t t' : Tre} (h : t.flat = t'.flat) : t = t' := by
 have := q9 (bE [t]).length [t] [t'] [] [] (df _) (by simp [h]) (by simp [h])
 simpa using this
end Tre
def bI : Nat -> List Tre -> List Nat
 | _, [] => []
 | p, t :: ts => p :: bI (p + t.flat.length) ts
theorem jd : ∀ (p : Nat) (ts : List Tre), (bI p ts).length = ts.length
 | _, [] => rfl
 | p, t :: ts => by simp [bI, jd]
def iY (l : List Nd) (p : Nat) (ts : List Tre) : Prop := ∃ r, l.drop p = Tre.bE ts ++ r
def dW (l : List Nd) (p : Nat) (t : Tre) : Prop := ∃ r, l.drop p = t.flat ++ r
section
variable {l : List Nd} {p : Nat} {t : Tre} {ts : List Tre}
theorem iY.head (h : iY l p (t :: ts)) : dW l p t := by
 obtain ⟨r, h⟩ := h
 exact ⟨Tre.bE ts ++ r, by rw [h]; simp⟩
theorem iY.tail (h : iY l p (t :: ts)) : iY l (p + t.flat.length) ts := by
 obtain ⟨r, h⟩ := h
 refine ⟨r, ?_⟩
 rw [<- List.drop_drop, h]
 simp
theorem iY.app {xx : List Tre} (h : iY l p (ts ++ xx)) : iY l p ts /\ iY l (p + (Tre.bE ts).length) xx := by
 obtain ⟨r, h⟩ := h
 refine ⟨⟨Tre.bE xx ++ r, by rw [h, Tre.nS]; simp⟩, ⟨r, ?_⟩⟩
 rw [<- List.drop_drop, h, Tre.nS]
 simp
theorem dW.lD (h : dW l p t) : ∃ x, l[p]? = some x /\ x.kind = t.kind /\ x.size = t.flat.length /\ x.text = t.text /\ x.n = t.n /\ x.m = t.m /\ x.at_ = t.at_ := by
 obtain ⟨r, h⟩ := h
 obtain ⟨x, r', h1, h2, h3, h4, h5, h6, h7, h8⟩ := t.nB
 refine ⟨x, ?_, h2, h3, h4, h5, h6, h7⟩
 rw [h1] at h
 have : (l.drop p)[0]? = some x := by rw [h]; rfl
 simpa using this
theorem dW.le (h : dW l p t) : p + t.flat.length <= l.length := by
 obtain ⟨r, h⟩ := h
 have h' := congrArg List.length h
 have := t.cR
 simp only [List.length_drop, fX] at h'; omega
theorem iY.le (h : iY l p ts) (hp : p <= l.length) : p + (Tre.bE ts).length <= l.length := by
 obtain ⟨r, h⟩ := h
 have := congrArg List.length h
 simp at this; omega
theorem dW.kids (h : dW l p t) : iY l (p + 1) t.kids := by
 obtain ⟨r, h⟩ := h
 obtain ⟨x, r', h1, h2, h3, h4, h5, h6, h7, h8⟩ := t.nB
 refine ⟨r, ?_⟩
 rw [<- List.drop_drop, h, h1, h8]
 rfl
theorem ki (t : Tre) : t.flat.length = (Tre.bE t.kids).length + 1 := by
 cases t with
 | mk k t n m a ks => rw [Tre.fR]; rfl
theorem dW.whole (t : Tre) : dW t.flat 0 t := ⟨[], by simp⟩
theorem Bj : ∀ (ts : List Tre) (p f : Nat), iY l p ts -> ts.length <= f -> fA l ((p : Int) + (Tre.bE ts).length) f p = bI p ts
 | [], p, 0, h, hf => rfl
 | [], p, f + 1, h, hf => by
   simp only [fA, bI, Tre.pa, oL]
   split
   · rw [if_neg (by omega)]
   · rfl
 | t :: ts, p, 0, h, hf => by simp at hf
 | t :: ts, p, f + 1, h, hf => by
   obtain ⟨x, hx, _, hs, _⟩ := h.head.lD
   have hp := t.cR
   simp only [fA, bI, hx]
   rw [if_pos (by simp; omega)]
   have := Bj ts (p + t.flat.length) f h.tail (by simp at hf; omega)
   have e : p + x.size.toNat = p + t.flat.length := by omega
   rw [e, <- this]
   congr 2
   simp; omega
theorem xL (h : dW l p t) : fA l ((p : Int) + t.flat.length) l.length (p + 1) = bI (p + 1) t.kids := by
 have := Bj t.kids (p + 1) l.length h.kids (by
  have := h.le
  have := ki t
  have := Tre.nC t.kids
  omega)
 rw [<- this]
 have := ki t
 congr 1
 omega
theorem wE : ∀ (N : Nat) (ts : List Tre) (p : Nat), (Tre.bE ts).length <= N -> iY l p ts -> ∀ i, p <= i -> i < p + (Tre.bE ts).length -> ∃ t, dW l i t /\ (Tre.ry ts = true -> t.ok = true)
 | N, [], p, hN, h, i, h1, h2 => by simp at h2; omega
 | 0, t :: ts, p, hN, h, i, h1, h2 => by have := t.cR; simp only [Tre.c6, fX] at hN; omega
 | N + 1, .mk k tx n m a ks :: ts, p, hN, h, i, h1, h2 => by
   simp only [Tre.c6, Tre.fR, fX, jy] at hN h2
   by_cases he : i = p
   · subst he
     refine ⟨_, h.head, fun ho => ?_⟩
     rw [Tre.tQ, bN] at ho
     exact ho.1
   · by_cases hi : i < p + ((Tre.bE ks).length + 1)
     · obtain ⟨t, ht, ho⟩ := wE N ks (p + 1) (by omega) h.head.kids i (by omega) (by omega)
       refine ⟨t, ht, fun hk => ho ?_⟩
       rw [Tre.tQ, Tre.ok] at hk
       simp only [bN] at hk
       exact hk.1.2
     · obtain ⟨t, ht, ho⟩ := wE N ts (p + (Tre.flat (.mk k tx n m a ks)).length) (by omega) h.tail i (by rw [Tre.fR]; simp; omega) (by rw [Tre.fR]; simp; omega)
       refine ⟨t, ht, fun hk => ho ?_⟩
       rw [Tre.tQ, bN] at hk
       exact hk.2
end
theorem uA (l : List Nd) (n : Nat) (es : List Int) : hZ l n (es.filter ((n : Int) < ·)) = hZ l n es := by
 cases l with
 | nil => rfl
 | cons x r => simp only [hZ, List.filter_filter, Bool.and_self]
theorem u7 : ∀ (N : Nat) (ts : List Tre) (n : Nat) (es : List Int) (r : List Nd), (Tre.bE ts).length <= N -> (∀ e ∈ es, (n : Int) + (Tre.bE ts).length <= e) ->
 hZ (Tre.bE ts ++ r) n es = ((decide (ts ≠ []) && decide (60 < es.length + (Tre.jF ts - 1))) || hZ r (n + (Tre.bE ts).length) es)
 | N, [], n, es, r, hN, vg => by simp
 | 0, t :: ts, n, es, r, hN, vg => by have := t.cR; simp only [Tre.c6, fX] at hN; omega
 | N + 1, .mk k tx a b c ks :: ts, n, es, r, hN, vg => by
   simp only [Tre.c6, Tre.fR, fX, jy] at hN vg
   have hfe : es.filter ((n : Int) < ·) = es := by
    rw [List.filter_eq_self]
    intro e he
    have := vg e he
    simp only [cP]
    omega
   simp only [Tre.c6, Tre.fR, jV, pw, hZ, hfe, Tre.ke, Tre.Fm]
   by_cases w9 : 60 < es.length
   · rw [if_pos w9]
     simp; omega
   · rw [if_neg w9]
     have h1 := u7 N ks (n + 1) (es ++ [(n : Int) + (((Tre.bE ks).length : Int) + 1)]) (Tre.bE ts ++ r) (by omega) (fun e he => by
      simp only [fC, lg] at he
      rcases he with he | rfl
      · have := vg e he; omega
      · omega)
     rw [h1]
     have h2 : hZ (Tre.bE ts ++ r) (n + 1 + (Tre.bE ks).length) (es ++ [(n : Int) + (((Tre.bE ks).length : Int) + 1)]) = hZ (Tre.bE ts ++ r) (n + 1 + (Tre.bE ks).length) es := by
      rw [<- uA, <- uA (es := es)]
      congr 1
      rw [List.filter_append]
      have : List.filter (fun x => decide (((n + 1 + (Tre.bE ks).length : Nat) : Int) < x)) [(n : Int) + (((Tre.bE ks).length : Int) + 1)] = [] := by
       rw [List.filter_cons_of_neg, List.filter_nil]
       simp only [cP]; omega
      rw [this, jU]
     rw [h2]
     have h3 := u7 N ts (n + 1 + (Tre.bE ks).length) es r (by omega) (fun e he => by have := vg e he; omega)
     rw [h3]
     have e1 : n + 1 + (Tre.bE ks).length + (Tre.bE ts).length = n + ((Tre.flat (.mk k tx a b c ks)).length + (Tre.bE ts).length) := by rw [Tre.fR]; simp; omega
     have e2 : n + ((Tre.bE ks).length + 1 + (Tre.bE ts).length) = n + 1 + (Tre.bE ks).length + (Tre.bE ts).length := by omega
     simp only [fX, jy, oL, e2, Tre.fR]
     rw [<- Bool.or_assoc]
     congr 1
     rw [lL]
     have hd : ks = [] -> Tre.jF ks = 0 := fun e => by rw [e, Tre.gJ]
     have pB : ts = [] -> Tre.jF ts = 0 := fun e => by rw [e, Tre.gJ]
     have hdp : ks ≠ [] -> 0 < Tre.jF ks := fun e => by
      cases ks with
      | nil => exact absurd rfl e
      | cons t ks => rw [Tre.ke]; omega
     have Uw : ts ≠ [] -> 0 < Tre.jF ts := fun e => by
      cases ts with
      | nil => exact absurd rfl e
      | cons t ks => rw [Tre.ke]; omega
     simp only [ja, bN, cP, ne_eq, reduceCtorEq, not_false_eq_true, true_and]
     by_cases hk : ks = []
     · have := hd hk
       by_cases ht : ts = []
       · have := pB ht
         rw [ht] at this
         simp only [hk, ht, not_true, false_and, or_false, false_iff, Tre.gJ]; omega
       · have := Uw ht
         simp only [hk, ht, not_true, false_and, false_or, not_false_eq_true, true_and, Tre.gJ]; omega
     · have := hdp hk
       by_cases ht : ts = []
       · simp only [hk, ht, not_true, false_and, or_false, not_false_eq_true, true_and, Tre.gJ]; omega
       · have := Uw ht
         simp only [hk, ht, not_false_eq_true, true_and]; omega
     congr 1; omega
theorem EE (t : Tre) : hZ t.flat 0 [] = decide (60 < t.deep) := by
 have := u7 t.flat.length [t] 0 [] [] (by simp) (by simp)
 simp only [Tre.c6, Tre.pa, jU, Tre.ke, Tre.gJ, ne_eq, reduceCtorEq, not_false_eq_true, bS, Bool.true_and, oL] at this
 rw [this]
 simp only [hZ, Bool.or_false]
 rw [lL]; simp only [cP]; omega
theorem EF (t : Tre) : qo t.flat = (decide (60 < t.deep) || decide (24 < t.kids.length)) := by
 unfold qo
 rw [EE]
 have h := xL (dW.whole t)
 have hs : kD t.flat = ((0 : Nat) : Int) + t.flat.length := by
  obtain ⟨x, r, h1, _, h3, _⟩ := t.nB
  rw [h1] at h3 ⊢
  simp only [kD]; omega
 rw [hs, h, jd]
open Classical in
noncomputable def vV (l : List Nd) : Option Tre := if h : ∃ t : Tre, l = t.flat then some h.choose else none
theorem MK (t : Tre) : vV t.flat = some t := by
 unfold vV
 have h : ∃ t' : Tre, t.flat = t'.flat := ⟨t, rfl⟩
 rw [dif_pos h]
 have := h.choose_spec
 rw [<- Tre.Nz this]
theorem ML {l : List Nd} (h : ¬ ∃ t : Tre, l = t.flat) : vV l = none := by unfold vV; rw [dif_neg h]
theorem MM {l : List Nd} {t : Tre} (h : vV l = some t) : l = t.flat := by
 unfold vV at h
 split at h
 · rename_i h'
   have := h'.choose_spec
   cases h
   exact this
 · cases h
def qk (t : Tre) : Int := if t.kind ≠ 1 \/ t.ok = false then 4 else if 60 < t.deep \/ 24 < t.kids.length then 5 else 0
noncomputable def ey (l : List Nd) : Int := if 900 < l.length then 5 else match vV l with | none => 4 | some t => qk t
theorem AH (t : Tre) (h : ¬ 900 < t.flat.length) : ey t.flat = qk t := by unfold ey; rw [if_neg h, MK]
end Go.Rip
namespace Go.Rip
def mg (l : List Nd) (e : Nat) : Nat -> Nat -> Nat
 | 0, p => p
 | f + 1, p => if p < e then mg l e f (p + ((l[p]?.map Nd.size).getD 0).toNat) else p
def eT (l : List Nd) (i : Nat) : Nat := ((l[i]?.map Nd.size).getD 0).toNat
def uN (l : List Nd) : Prop := l ≠ [] /\ kD l = l.length /\ ∀ (i : Nat) (x : Nd), l[i]? = some x -> 1 <= x.size /\ x.size <= (l.length : Int) - i
def ti (l : List Nd) : Prop := uN l /\ ∀ (i : Nat) (x : Nd), l[i]? = some x -> mg l (i + x.size.toNat) l.length (i + 1) = i + x.size.toNat
theorem pY {l : List Nd} {e p : Nat} (h : ¬ p < e) : ∀ f, mg l e f p = p
 | 0 => rfl
 | f + 1 => by rw [mg, if_neg h]
theorem pX {l : List Nd} {e p f : Nat} {x : Nd} (hx : l[p]? = some x) (h : p < e) : mg l e (f + 1) p = mg l e f (p + x.size.toNat) := by
 rw [mg, if_pos h, hx]; rfl
theorem zA {l : List Nd} : ∀ (ts : List Tre) (p f : Nat), iY l p ts -> ts.length <= f -> mg l (p + (Tre.bE ts).length) f p = p + (Tre.bE ts).length
 | [], p, f, h, hf => by rw [Tre.pa, pY (by simp)]; rfl
 | t :: ts, p, 0, h, hf => by simp at hf
 | t :: ts, p, f + 1, h, hf => by
   obtain ⟨x, hx, _, hs, _⟩ := h.head.lD
   have hp := t.cR
   rw [pX hx (by simp; omega)]
   have := zA ts (p + t.flat.length) f h.tail (by simp at hf; omega)
   have e : p + x.size.toNat = p + t.flat.length := by omega
   have e2 : p + (Tre.bE (t :: ts)).length = p + t.flat.length + (Tre.bE ts).length := by simp; omega
   rw [e, e2, this]
theorem HH (t : Tre) : ti t.flat := by
 have sub : ∀ i x, t.flat[i]? = some x -> ∃ t', dW t.flat i t' := fun i x hx => by
  have hi := (dm.1 hx).1
  obtain ⟨t', h, _⟩ := wE (l := t.flat) t.flat.length [t] 0 (by simp) ⟨[], by simp⟩ i (by omega) (by simpa using hi)
  exact ⟨t', h⟩
 refine ⟨⟨?_, ?_, fun i x hx => ?_⟩, fun i x hx => ?_⟩
 · have := t.cR
   intro e; rw [e] at this; simp at this
 · obtain ⟨x, r, h1, _, h3, _⟩ := t.nB
   rw [h1] at h3 ⊢; exact h3
 · obtain ⟨t', h⟩ := sub i x hx
   obtain ⟨y, hy, _, hs, _⟩ := h.lD
   rw [hx] at hy; cases hy
   have := h.le
   have := t'.cR
   omega
 · obtain ⟨t', h⟩ := sub i x hx
   obtain ⟨y, hy, _, hs, _⟩ := h.lD
   rw [hx] at hy; cases hy
   have hl := ki t'
   have := zA t'.kids (i + 1) t.flat.length h.kids (by
    have := h.le
    have := Tre.nC t'.kids
    omega)
   have e : i + x.size.toNat = i + 1 + (Tre.bE t'.kids).length := by omega
   rw [e]; exact this
theorem vR {l : List Nd} (hs : ti l) : ∀ (N i e f : Nat), e - i <= N -> i <= e -> e <= l.length -> e - i <= f -> mg l e f i = e -> ∃ ts, l.drop i = Tre.bE ts ++ l.drop e /\ (Tre.bE ts).length = e - i
 | N, i, e, f, hN, YU, he, hf, hw => by
   by_cases h : i = e
   · subst h; exact ⟨[], by simp, by simp⟩
   · cases N with
     | zero => omega
     | succ N =>
     cases f with
     | zero => omega
     | succ f =>
     obtain ⟨x, hx⟩ : ∃ x, l[i]? = some x := ⟨l[i]'(by omega), by simp⟩
     have FM := hs.1.2.2 i x hx
     rw [pX hx (by omega)] at hw
     have hse : i + x.size.toNat <= e := by
      rcases eD e (i + x.size.toNat) with h1 | h1
      · rw [pY (by omega)] at hw; omega
      · exact h1
     obtain ⟨ks, k1, k2⟩ := vR hs N (i + 1) (i + x.size.toNat) l.length (by omega) (by omega) (by omega) (by omega) (hs.2 i x hx)
     obtain ⟨ts, t1, t2⟩ := vR hs N (i + x.size.toNat) e f (by omega) hse he (by omega) hw
     have yM : (Tre.mk x.kind x.text x.n x.m x.at_ ks).flat = x :: Tre.bE ks := by
      rw [Tre.fR]
      have : ((Tre.bE ks).length : Int) + 1 = x.size := by omega
      rw [this]
     refine ⟨.mk x.kind x.text x.n x.m x.at_ ks :: ts, ?_, ?_⟩
     · have hd : l.drop i = x :: l.drop (i + 1) := by
        rw [fN (by omega)]
        have := (dm.1 hx).2
        rw [this]
       rw [hd, k1, t1, Tre.c6, yM]
       simp
     · rw [Tre.c6, yM]; simp; omega
theorem rF (l : List Nd) : ti l ↔ ∃ t : Tre, l = t.flat := by
 refine ⟨fun h => ?_, fun ⟨t, ht⟩ => ht ▸ HH t⟩
 cases l with
 | nil => exact absurd rfl h.1.1
 | cons x r =>
   have dG : x.size = (r.length : Int) + 1 := by have := h.1.2.1; simpa [kD] using this
   have hw := h.2 0 x rfl
   obtain ⟨ks, k1, k2⟩ := vR h r.length 1 (r.length + 1) (r.length + 1) (by omega) (by omega) (by simp) (by omega) (by
    have e : 0 + x.size.toNat = r.length + 1 := by omega
    rw [e] at hw; exact hw)
   refine ⟨.mk x.kind x.text x.n x.m x.at_ ks, ?_⟩
   rw [Tre.fR]
   have hr : r = Tre.bE ks := by
    have : (x :: r).drop 1 = r := rfl
    rw [this, List.drop_of_length_le (by simp), jU] at k1
    exact k1
   rw [<- hr, <- dG]
theorem x9 {p : Int -> Bool} : ∀ {l : List Int}, (∀ x ∈ l, p x = true) -> l.takeWhile p = l
 | [], _ => rfl
 | a :: l, h => by rw [nj, if_pos (h a (by simp)), x9 fun x hx => h x (by simp [hx])]
theorem D8 {p : Int -> Bool} : ∀ {l : List Int}, l.takeWhile p = l -> ∀ x ∈ l, p x = true
 | [], _ => by simp
 | a :: l, h => by
   rw [nj] at h
   split at h
   · rename_i ha
     intro x hx
     rcases ep.1 hx with rfl | hx
     · exact ha
     · exact D8 (List.cons.inj h).2 x hx
   · cases h
theorem Rt (c : qf) (lo hi : Nat) (ks : List Int) : dp ks [⟨c, lo, hi⟩] = (decide (lo <= ks.length /\ ks.length <= hi) && ks.all c.is) := by
 rw [dp]
 simp only [gP, List.sum_nil, Nat.sub_zero, dp]
 have hle : ((ks.take (min ks.length hi)).takeWhile c.is).length <= min ks.length hi := by
  have := (qM c.is (l := ks.take (min ks.length hi))).length_le
  rw [List.length_take] at this; omega
 rw [lL]
 constructor
 · intro h
   split at h
   · cases h
   · rename_i h1
     have h2 : ks.length <= ((ks.take (min ks.length hi)).takeWhile c.is).length := by
      have : (ks.drop ((ks.take (min ks.length hi)).takeWhile c.is).length).length = 0 := by
       rw [List.isEmpty_iff.1 h]; rfl
      rw [List.length_drop] at this; omega
     have YE := Nat.le_trans h2 hle
     have h3 : ks.take (min ks.length hi) = ks := pt (by omega)
     rw [h3] at h1 h2
     have h4 : ks.takeWhile c.is = ks := (qM c.is).eq_of_length_le h2
     have h5 := D8 h4
     rw [h4] at h1
     simp only [bN, cP, dJ]
     exact ⟨⟨by omega, by omega⟩, h5⟩
 · intro h
   simp only [bN, cP, dJ] at h
   obtain ⟨⟨h1, h2⟩, h3⟩ := h
   have e1 : ks.take (min ks.length hi) = ks := pt (by omega)
   have e2 : ks.takeWhile c.is = ks := x9 h3
   rw [e1, e2, if_neg (by omega)]
   simp
theorem mU : ∀ (cs : List qf) (ks : List Int), dp ks (cs.map fun c => ⟨c, 1, 1⟩) = true -> ks.length = cs.length
 | [], ks, h => by simp only [gP, dp, List.isEmpty_iff] at h; simp [h]
 | c :: cs, ks, h => by
   rw [dy, dp] at h
   simp only at h
   split at h
   · cases h
   · rename_i h1
     have h7 := mU cs _ h
     have hle : ∀ n, ((ks.take (min n 1)).takeWhile c.is).length <= 1 /\ ((ks.take (min n 1)).takeWhile c.is).length <= ks.length := fun n => by
      have := (qM c.is (l := ks.take (min n 1))).length_le
      rw [List.length_take] at this; omega
     have h8 := hle (ks.length - ((cs.map fun c => (⟨c, 1, 1⟩ : mh)).map (·.least)).sum)
     rw [List.length_drop] at h7
     have key : ∀ q a b : Nat, ¬ q < 1 -> a - q = b -> q <= 1 /\ q <= a -> a = b + 1 := by omega
     rw [jy]
     exact key _ _ _ h1 h7 h8
theorem D4 (cs : List qf) : ((cs.map fun c => (⟨c, 1, 1⟩ : mh)).map (·.least)).sum = cs.length := by
 induction cs with
 | nil => rfl
 | cons c cs ih => simp only [dy, List.sum_cons, jy, ih]; omega
theorem ir (c : qf) (cs : List qf) (k : Int) (ks : List Int) (h : ks.length = cs.length) : dp (k :: ks) (⟨c, 1, 1⟩ :: cs.map fun c => ⟨c, 1, 1⟩) = (c.is k && dp ks (cs.map fun c => ⟨c, 1, 1⟩)) := by
 rw [dp]
 simp only [D4]
 have : min ((k :: ks).length - cs.length) 1 = 1 := by simp; omega
 rw [this]
 simp only [List.take_succ_cons, List.take_zero, nj, List.takeWhile_nil]
 cases c.is k <;> simp
theorem wT (s : mh) (cs : List qf) (ks : List Int) (hm : ks.length <= s.my + cs.length) : dp ks (s :: cs.map fun c => ⟨c, 1, 1⟩) = (decide (s.least + cs.length <= ks.length) && ((ks.take (ks.length - cs.length)).all s.c.is && dp (ks.drop (ks.length - cs.length)) (cs.map fun c => ⟨c, 1, 1⟩))) := by
 rw [dp]
 simp only [D4]
 have e0 : min (ks.length - cs.length) s.my = ks.length - cs.length := by omega
 rw [e0]
 have hle : ((ks.take (ks.length - cs.length)).takeWhile s.c.is).length <= ks.length - cs.length := by
  have := (qM s.c.is (l := ks.take (ks.length - cs.length))).length_le
  rw [List.length_take] at this; omega
 by_cases bw : ∀ x ∈ ks.take (ks.length - cs.length), s.c.is x = true
 · have e2 : (ks.take (ks.length - cs.length)).takeWhile s.c.is = ks.take (ks.length - cs.length) := x9 bw
   have e3 : (ks.take (ks.length - cs.length)).all s.c.is = true := dJ.2 bw
   rw [e2, e3, List.length_take, Nat.min_eq_left (by omega)]
   by_cases h : s.least + cs.length <= ks.length
   · rw [if_neg (by omega)]; simp [h]
   · rw [decide_eq_false h, Bool.false_and]
     by_cases h2 : ks.length - cs.length < s.least
     · rw [if_pos h2]
     · rw [if_neg h2]
       have : s.least = 0 := by omega
       cases hf : dp (ks.drop (ks.length - cs.length)) (cs.map fun c => ⟨c, 1, 1⟩) with
       | false => rfl
       | true =>
         have := mU cs _ hf
         rw [List.length_drop] at this
         omega
 · have e3 : (ks.take (ks.length - cs.length)).all s.c.is = false := by
    cases h : (ks.take (ks.length - cs.length)).all s.c.is with
    | false => rfl
    | true => exact absurd (dJ.1 h) bw
   rw [e3, Bool.false_and, Bool.and_false]
   have aJ : ((ks.take (ks.length - cs.length)).takeWhile s.c.is).length < ks.length - cs.length := by
    refine Nat.lt_of_le_of_ne hle fun e => bw ?_
    have : (ks.take (ks.length - cs.length)).takeWhile s.c.is = ks.take (ks.length - cs.length) := (qM _).eq_of_length_le (by rw [List.length_take]; omega)
    exact D8 this
   split
   · rfl
   · cases hf : dp (ks.drop ((ks.take (ks.length - cs.length)).takeWhile s.c.is).length) (cs.map fun c => ⟨c, 1, 1⟩) with
     | false => rfl
     | true =>
       have := mU cs _ hf
       rw [List.length_drop] at this
       omega
end Go.Rip
namespace Go.Rip
mutual
def lE : Nat -> Tre -> List Nat
 | d, .mk _ _ _ _ _ ks => d :: kf (d + 1) ks
def kf : Nat -> List Tre -> List Nat
 | _, [] => []
 | d, t :: ts => lE d t ++ kf d ts
end
@[simp] theorem Ij {d : Nat} : kf d [] = [] := by rw [kf]
@[simp] theorem tt {d : Nat} {t : Tre} {ts : List Tre} : kf d (t :: ts) = lE d t ++ kf d ts := by rw [kf]
theorem sw {d : Nat} {k : Int} {t : bf} {n m a : Int} {ks : List Tre} : lE d (.mk k t n m a ks) = d :: kf (d + 1) ks := by rw [lE]
theorem qm : ∀ (N : Nat) (ts : List Tre) (d : Nat), (Tre.bE ts).length <= N -> (kf d ts).length = (Tre.bE ts).length
 | _, [], _, _ => by simp
 | 0, t :: ts, _, h => by have := t.cR; simp only [Tre.c6, fX] at h; omega
 | N + 1, .mk k t n m a ks :: ts, d, h => by
   simp only [Tre.c6, Tre.fR, fX, jy] at h
   have h1 := qm N ks (d + 1) (by omega)
   have h2 := qm N ts d (by omega)
   simp only [tt, sw, Tre.c6, Tre.fR, fX, jy, h1, h2]
theorem rS (d : Nat) (t : Tre) : (lE d t).length = t.flat.length := by
 have := qm _ [t] d (df _)
 simpa using this
theorem zO : ∀ (N : Nat) (ts : List Tre) (d c : Nat), (Tre.bE ts).length <= N -> ((∃ x ∈ kf d ts, c < x) ↔ ts ≠ [] /\ c < d + (Tre.jF ts - 1))
 | _, [], _, _, _ => by simp
 | 0, t :: ts, _, _, h => by have := t.cR; simp only [Tre.c6, fX] at h; omega
 | N + 1, .mk k t n m a ks :: ts, d, c, h => by
   simp only [Tre.c6, Tre.fR, fX, jy] at h
   have h1 := zO N ks (d + 1) c (by omega)
   have h2 := zO N ts d c (by omega)
   have e : (∃ x ∈ kf d (Tre.mk k t n m a ks :: ts), c < x) ↔ (c < d \/ (∃ x ∈ kf (d + 1) ks, c < x)) \/ ∃ x ∈ kf d ts, c < x := by
    simp only [tt, sw, jV, ep, fC]
    constructor
    · rintro ⟨x, rfl | hx | hx, hc⟩
      · exact .inl (.inl hc)
      · exact .inl (.inr ⟨x, hx, hc⟩)
      · exact .inr ⟨x, hx, hc⟩
    · rintro ((hc | ⟨x, hx, hc⟩) | ⟨x, hx, hc⟩)
      · exact ⟨d, .inl rfl, hc⟩
      · exact ⟨x, .inr (.inl hx), hc⟩
      · exact ⟨x, .inr (.inr hx), hc⟩
   rw [e, h1, h2]
   simp only [Tre.ke, Tre.Fm, ne_eq, reduceCtorEq, not_false_eq_true, true_and]
   have hd : ∀ l : List Tre, l = [] -> Tre.jF l = 0 := fun l e => by rw [e, Tre.gJ]
   have hp : ∀ l : List Tre, ¬ l = [] -> 0 < Tre.jF l := fun l e => by
    cases l with
    | nil => exact absurd rfl e
    | cons t l => rw [Tre.ke]; omega
   by_cases hk : ks = []
   · have := hd ks hk
     by_cases ht : ts = []
     · have := hd ts ht
       simp only [hk, ht, not_true, false_and, or_false, Tre.gJ]; omega
     · have := hp ts ht
       simp only [hk, ht, not_true, false_and, or_false, not_false_eq_true, true_and, Tre.gJ]; omega
   · have := hp ks hk
     by_cases ht : ts = []
     · simp only [hk, ht, not_true, false_and, or_false, not_false_eq_true, true_and, Tre.gJ]; omega
     · have := hp ts ht
       simp only [hk, ht, not_false_eq_true, true_and]; omega
theorem Cy (t : Tre) : (∃ x ∈ lE 0 t, 60 < x) ↔ 60 < t.deep := by
 have := zO _ [t] 0 60 (df _)
 simp only [tt, Ij, jU, ne_eq, reduceCtorEq, not_false_eq_true, true_and, Tre.ke, Tre.gJ] at this
 rw [this]; omega
def oz (D : List Nat) (p d : Nat) (ts : List Tre) : Prop := ∃ r, D.drop p = kf d ts ++ r
section
variable {l : List Nd} {D : List Nat} {p d : Nat} {t : Tre} {ts : List Tre}
theorem oz.lD (h : oz D p d (t :: ts)) : D[p]? = some d := by
 obtain ⟨r, h⟩ := h
 have : (D.drop p)[0]? = some d := by
  rw [h]
  cases t
  simp [sw]
 simpa using this
theorem oz.tail (h : oz D p d (t :: ts)) : oz D (p + t.flat.length) d ts := by
 obtain ⟨r, h⟩ := h
 refine ⟨r, ?_⟩
 rw [<- List.drop_drop, h, <- rS d t]
 simp
theorem oz.kids (h : oz D p d (t :: ts)) : oz D (p + 1) (d + 1) t.kids := by
 obtain ⟨r, h⟩ := h
 cases t with
 | mk k tx n m a ks =>
 refine ⟨kf d ts ++ r, ?_⟩
 rw [<- List.drop_drop, h]
 simp [sw, Tre.kids]
theorem oz.bI : ∀ {ts : List Tre} {p : Nat}, oz D p d ts -> ∀ i ∈ bI p ts, D[i]? = some d
 | [], p, h, i, hi => by simp [Rip.bI] at hi
 | t :: ts, p, h, i, hi => by
   simp only [Rip.bI, ep] at hi
   rcases hi with rfl | hi
   · exact h.lD
   · exact h.tail.bI i hi
theorem vG : ∀ (N : Nat) (ts : List Tre) (p d : Nat), (Tre.bE ts).length <= N -> iY l p ts -> oz D p d ts -> ∀ i, p <= i -> i < p + (Tre.bE ts).length ->
 (∃ s e, dW l i s /\ D[i]? = some e /\ oz D (i + 1) (e + 1) s.kids /\ e + p <= d + i) /\ (i ∈ bI p ts \/ ∃ i' s', p <= i' /\ i' < i /\ dW l i' s' /\ i ∈ bI (i' + 1) s'.kids)
 | N, [], p, d, hN, h, hd, i, h1, h2 => by simp at h2; omega
 | 0, t :: ts, p, d, hN, h, hd, i, h1, h2 => by have := t.cR; simp only [Tre.c6, fX] at hN; omega
 | N + 1, t :: ts, p, d, hN, h, hd, i, h1, h2 => by
   have CQ := ki t
   simp only [Tre.c6, fX] at hN h2
   by_cases he : i = p
   · subst he
     exact ⟨⟨t, d, h.head, hd.lD, hd.kids, df _⟩, .inl (by simp [bI])⟩
   · by_cases hi : i < p + t.flat.length
     · obtain ⟨⟨s, e, a1, a2, a3, a4⟩, b⟩ := vG N t.kids (p + 1) (d + 1) (by omega) h.head.kids hd.kids i (by omega) (by omega)
       refine ⟨⟨s, e, a1, a2, a3, by omega⟩, .inr ?_⟩
       rcases b with b | ⟨i', s', b1, b2, b3⟩
       · exact ⟨p, t, df _, by omega, h.head, b⟩
       · exact ⟨i', s', by omega, b2, b3⟩
     · have := t.cR
       obtain ⟨⟨s, e, a1, a2, a3, a4⟩, b⟩ := vG N ts (p + t.flat.length) d (by omega) h.tail hd.tail i (by omega) (by omega)
       refine ⟨⟨s, e, a1, a2, a3, by omega⟩, ?_⟩
       rcases b with b | ⟨i', s', b1, b2, b3⟩
       · exact .inl (by simp [bI, b])
       · exact .inr ⟨i', s', by omega, b2, b3⟩
end
theorem place (t : Tre) {i : Nat} (hi : i < t.flat.length) : (∃ s e, dW t.flat i s /\ (lE 0 t)[i]? = some e /\ oz (lE 0 t) (i + 1) (e + 1) s.kids /\ e <= i) /\ (i = 0 \/ ∃ i' s', i' < i /\ dW t.flat i' s' /\ i ∈ bI (i' + 1) s'.kids) := by
 obtain ⟨⟨s, e, a1, a2, a3, a4⟩, b⟩ := vG (l := t.flat) (D := lE 0 t) t.flat.length [t] 0 0 (by simp) ⟨[], by simp⟩ ⟨[], by simp⟩ i (by omega) (by simpa using hi)
 refine ⟨⟨s, e, a1, a2, a3, by omega⟩, ?_⟩
 rcases b with b | ⟨i', s', b1, b2, b3⟩
 · simp only [bI, ep, List.not_mem_nil, or_false] at b
   exact .inl b
 · exact .inr ⟨i', s', b2, b3⟩
theorem dW.inj {l : List Nd} {i : Nat} {s s' : Tre} (h : dW l i s) (k : dW l i s') : s = s' := by
 obtain ⟨r, h1⟩ := h
 obtain ⟨r', h2⟩ := k
 obtain ⟨x, hx, _, hs, _⟩ := dW.lD ⟨r, h1⟩
 obtain ⟨x', ia, _, dA, _⟩ := dW.lD ⟨r', h2⟩
 rw [hx] at ia; cases ia
 have := Tre.q9 s.flat.length [s] [s'] r r' (by simp) (by simpa using h1.symm.trans h2) (by simp; omega)
 simpa using this
end Go.Rip
