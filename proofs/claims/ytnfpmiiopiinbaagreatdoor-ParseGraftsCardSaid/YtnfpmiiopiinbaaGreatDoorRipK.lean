/- Lemmas for the proof: no conditions. -/
import Derived.Test.YtnfpmiiopiinbaaGreatDoorRipZz
import Derived.Test.YtnfpmiiopiinbaaGreatDoorRipI
set_option linter.unusedVariables false
set_option linter.unusedSimpArgs false
set_option linter.loopingSimpArgs false
namespace Go.Rip
inductive qD where
 | item | type | base | term | arg | kind (k : Int)
def fH (k : Int) : Bool := decide (9 <= k /\ k <= 34)
def j5 (k : Int) : Bool := decide (k = 6 \/ k = 7)
def qz (k : Int) : Bool := decide (k = 6 \/ k = 7 \/ k = 8)
def o0 (k : Int) : Bool := decide (2 <= k /\ k <= 4)
def j0 (k : Int) : Bool := decide (9 <= k /\ k <= 36)
def qD.is : qD -> Int -> Bool
 | .item, k => o0 k
 | .type, k => qz k
 | .base, k => j5 k
 | .term, k => fH k
 | .arg, k => j0 k
 | .kind c, k => decide (k = c)
structure mB where
 c : qD
 least : Nat
 mL : Nat
structure Bk where
 text : Bool
 n : Bool
 m : Bool
 kids : List mB
def eG (k : Int) : Option Bk :=
 if k = 1 then some ⟨false, false, false, [⟨.item, 0, 900⟩]⟩
 else if k = 2 then some ⟨true, false, false, [⟨.type, 1, 1⟩]⟩
 else if k = 3 \/ k = 4 then some ⟨true, false, false, [⟨.kind 5, 0, 900⟩, ⟨.base, 1, 1⟩, ⟨.term, 1, 1⟩]⟩
 else if k = 5 then some ⟨true, false, false, [⟨.type, 1, 1⟩]⟩
 else if k = 6 \/ k = 7 then some ⟨false, true, false, []⟩
 else if k = 8 then some ⟨false, false, false, [⟨.base, 2, 900⟩]⟩
 else if k = 9 then some ⟨false, false, false, [⟨.term, 2, 900⟩]⟩
 else if k = 10 then some ⟨false, false, false, [⟨.term, 3, 3⟩]⟩
 else if k = 11 \/ k = 15 \/ k = 17 \/ k = 18 \/ 20 <= k /\ k <= 24 then some ⟨false, false, false, [⟨.term, 2, 2⟩]⟩
 else if k = 12 then some ⟨true, true, true, [⟨.term, 1, 1⟩]⟩
 else if k = 13 then some ⟨true, false, false, [⟨.term, 2, 2⟩]⟩
 else if k = 14 then some ⟨true, true, false, [⟨.term, 1, 1⟩]⟩
 else if k = 16 then some ⟨true, false, false, [⟨.term, 1, 1⟩]⟩
 else if k = 19 then some ⟨false, false, false, [⟨.term, 1, 1⟩]⟩
 else if k = 25 then some ⟨false, true, false, [⟨.term, 1, 1⟩]⟩
 else if k = 26 then some ⟨false, true, false, []⟩
 else if 27 <= k /\ k <= 30 then some ⟨false, false, false, []⟩
 else if k = 31 \/ k = 32 \/ k = 33 \/ k = 37 then some ⟨true, false, false, []⟩
 else if k = 34 then some ⟨true, false, false, [⟨.arg, 1, 900⟩]⟩
 else if k = 35 then some ⟨false, false, false, [⟨.kind 37, 1, 900⟩, ⟨.term, 1, 1⟩]⟩
 else if k = 36 then some ⟨false, false, false, [⟨.term, 1, 1⟩, ⟨.kind 37, 1, 1⟩, ⟨.term, 1, 1⟩]⟩
 else none
def dy : List Int -> List mB -> Bool
 | ks, [] => ks.isEmpty
 | ks, s :: rest =>
   let many := ((ks.take (min (ks.length - (rest.map (·.least)).sum) s.mL)).takeWhile s.c.is).length
   if many < s.least then false else dy (ks.drop many) rest
def iZ (s : bh) : Bool := decide (fQ s = (0, 1, s))
def hZ (n : Int) : Bool := decide (0 <= n /\ n <= 1000000)
def lP (x : Nd) (f : Bk) : Bool := (f.text == (x.text != [])) && (!f.text || iZ x.text) && hZ x.n && hZ x.m && (f.n || x.n == 0) && (f.m || x.m == 0)
inductive Tre where
 | mk (kind : Int) (text : bh) (n m at_ : Int) (kids : List Tre)
namespace Tre
def kind : Tre -> Int | mk k _ _ _ _ _ => k
def text : Tre -> bh | mk _ t _ _ _ _ => t
def n : Tre -> Int | mk _ _ n _ _ _ => n
def m : Tre -> Int | mk _ _ _ m _ _ => m
def at_ : Tre -> Int | mk _ _ _ _ a _ => a
def kids : Tre -> List Tre | mk _ _ _ _ _ ks => ks
mutual
def flat : Tre -> List Nd
 | mk k t n m a ks => node k t n m a (bB ks)
def bB : List Tre -> List Nd
 | [] => []
 | t :: ts => flat t ++ bB ts
end
mutual
def ok : Tre -> Bool
 | mk k t n m a ks => (match eG k with
   | some f => lP ⟨k, t, n, m, a, 0⟩ f && dy (ks.map kind) f.kids
   | none => false) && rW ks
def rW : List Tre -> Bool
 | [] => true
 | t :: ts => ok t && rW ts
end
mutual
def deep : Tre -> Nat
 | mk _ _ _ _ _ ks => jR ks
def jR : List Tre -> Nat
 | [] => 0
 | t :: ts => max (deep t + 1) (jR ts)
end
end Tre
namespace Tre
end Tre
end Go.Rip
namespace Go.Rip
def gh (l : List Nd) (en : Int) : Nat -> Nat -> List Nat
 | 0, _ => []
 | f + 1, p => match l[p]? with
   | some x => if (p : Int) < en /\ 0 < x.size then p :: gh l en f (p + x.size.toNat) else []
   | none => []
def ir : List Nd -> Nat -> List Int -> Bool
 | [], _, _ => false
 | x :: r, n, es => if 60 < (es.filter ((n : Int) < ·)).length then true else ir r (n + 1) (es.filter ((n : Int) < ·) ++ [(n : Int) + x.size])
def jT (l : List Nd) : Int := match l with | x :: _ => x.size | [] => 0
def qL (l : List Nd) : Bool := ir l 0 [] || decide (24 < (gh l (jT l) l.length 1).length)
namespace Tre
theorem fW {k : Int} {t : bh} {n m a : Int} {ks : List Tre} : flat (mk k t n m a ks) = ⟨k, t, n, m, a, ((bB ks).length : Int) + 1⟩ :: bB ks := by rw [flat]; rfl
@[simp] theorem pE : bB [] = [] := by rw [bB]
@[simp] theorem cO {t : Tre} {ts : List Tre} : bB (t :: ts) = flat t ++ bB ts := by rw [bB]
theorem ot : ∀ (l l' : List Tre), bB (l ++ l') = bB l ++ bB l'
 | [], l' => by simp
 | t :: l, l' => by simp [ot l l']
@[simp] theorem abF : rW [] = true := by rw [rW]
@[simp] theorem uB {t : Tre} {ts : List Tre} : rW (t :: ts) = (ok t && rW ts) := by rw [rW]
theorem zS : ∀ (l l' : List Tre), rW (l ++ l') = (rW l && rW l')
 | [], l' => by simp
 | t :: l, l' => by simp [zS l l', Bool.and_assoc]
@[simp] theorem F3 {k : Int} {t : bh} {n m a : Int} {ks : List Tre} : deep (mk k t n m a ks) = jR ks := by rw [deep]
@[simp] theorem gV : jR [] = 0 := by rw [jR]
@[simp] theorem kz {t : Tre} {ts : List Tre} : jR (t :: ts) = max (deep t + 1) (jR ts) := by rw [jR]
theorem cV : ∀ t : Tre, 0 < t.flat.length
 | mk k t n m a ks => by rw [fW]; simp
theorem nV : ∀ ts : List Tre, ts.length <= (bB ts).length
 | [] => by simp
 | t :: ts => by
   have := nV ts
   have := cV t
   simp; omega
theorem nU : ∀ t : Tre, ∃ x r, t.flat = x :: r /\ x.kind = t.kind /\ x.size = t.flat.length /\ x.text = t.text /\ x.n = t.n /\ x.m = t.m /\ x.at_ = t.at_ /\ r = bB t.kids
 | mk k t n m a ks => ⟨_, _, fW, rfl, by rw [fW]; simp, rfl, rfl, rfl, rfl, rfl⟩
theorem rF : ∀ (N : Nat) (ts yi : List Tre) (r r' : List Nd), (bB ts).length <= N -> bB ts ++ r = bB yi ++ r' -> (bB ts).length = (bB yi).length -> ts = yi
 | N, [], [], _, _, _, _, _ => rfl
 | N, [], t :: ts, _, _, _, _, h => by have := cV t; simp only [cO, pE, eU, o8] at h; omega
 | N, t :: ts, [], _, _, _, _, h => by have := cV t; simp only [cO, pE, eU, o8] at h; omega
 | 0, t :: ts, _, _, _, hN, _, _ => by have := cV t; simp only [cO, eU] at hN; omega
 | N + 1, mk k t n m a ks :: ts, mk k' t' n' m' a' ks' :: yi, r, r', hN, h, hl => by
   simp only [cO, fW, kf, nI, List.cons.injEq, Nd.mk.injEq, jL, eU] at h hl hN
   obtain ⟨⟨rfl, rfl, rfl, rfl, rfl, hs⟩, h⟩ := h
   have hs : (bB ks).length = (bB ks').length := by omega
   have e := rF N ks ks' (bB ts ++ r) (bB yi ++ r') (by omega) h hs
   subst e
   have h2 := List.append_cancel_left h
   have e := rF N ts yi r r' (by omega) h2 (by omega)
   rw [e]
theorem Oh {t t' : Tre} (h : t.flat = t'.flat) : t = t' := by
 have := rF (bB [t]).length [t] [t'] [] [] (cX _) (by simp [h]) (by simp [h])
 simpa using this
end Tre
def bG : Nat -> List Tre -> List Nat
 | _, [] => []
 | p, t :: ts => p :: bG (p + t.flat.length) ts
theorem kZ : ∀ (p : Nat) (ts : List Tre), (bG p ts).length = ts.length
 | _, [] => rfl
 | p, t :: ts => by simp [bG, kZ]
def jr (l : List Nd) (p : Nat) (ts : List Tre) : Prop := ∃ r, l.drop p = Tre.bB ts ++ r
def eQ (l : List Nd) (p : Nat) (t : Tre) : Prop := ∃ r, l.drop p = t.flat ++ r
section
variable {l : List Nd} {p : Nat} {t : Tre} {ts : List Tre}
theorem jr.head (h : jr l p (t :: ts)) : eQ l p t := by
 obtain ⟨r, h⟩ := h
 exact ⟨Tre.bB ts ++ r, by rw [h]; simp⟩
theorem jr.tail (h : jr l p (t :: ts)) : jr l (p + t.flat.length) ts := by
 obtain ⟨r, h⟩ := h
 refine ⟨r, ?_⟩
 rw [<- List.drop_drop, h]
 simp
theorem jr.app {yi : List Tre} (h : jr l p (ts ++ yi)) : jr l p ts /\ jr l (p + (Tre.bB ts).length) yi := by
 obtain ⟨r, h⟩ := h
 refine ⟨⟨Tre.bB yi ++ r, by rw [h, Tre.ot]; simp⟩, ⟨r, ?_⟩⟩
 rw [<- List.drop_drop, h, Tre.ot]
 simp
theorem eQ.lB (h : eQ l p t) : ∃ x, l[p]? = some x /\ x.kind = t.kind /\ x.size = t.flat.length /\ x.text = t.text /\ x.n = t.n /\ x.m = t.m /\ x.at_ = t.at_ := by
 obtain ⟨r, h⟩ := h
 obtain ⟨x, r', h1, h2, h3, h4, h5, h6, h7, h8⟩ := t.nU
 refine ⟨x, ?_, h2, h3, h4, h5, h6, h7⟩
 rw [h1] at h
 have : (l.drop p)[0]? = some x := by rw [h]; rfl
 simpa using this
theorem eQ.le (h : eQ l p t) : p + t.flat.length <= l.length := by
 obtain ⟨r, h⟩ := h
 have h' := congrArg List.length h
 have := t.cV
 simp only [List.length_drop, eU] at h'; omega
theorem jr.le (h : jr l p ts) (hp : p <= l.length) : p + (Tre.bB ts).length <= l.length := by
 obtain ⟨r, h⟩ := h
 have := congrArg List.length h
 simp at this; omega
theorem eQ.kids (h : eQ l p t) : jr l (p + 1) t.kids := by
 obtain ⟨r, h⟩ := h
 obtain ⟨x, r', h1, h2, h3, h4, h5, h6, h7, h8⟩ := t.nU
 refine ⟨r, ?_⟩
 rw [<- List.drop_drop, h, h1, h8]
 rfl
theorem gK (t : Tre) : t.flat.length = (Tre.bB t.kids).length + 1 := by
 cases t with
 | mk k t n m a ks => rw [Tre.fW]; rfl
theorem eQ.whole (t : Tre) : eQ t.flat 0 t := ⟨[], by simp⟩
theorem BX : ∀ (ts : List Tre) (p f : Nat), jr l p ts -> ts.length <= f -> gh l ((p : Int) + (Tre.bB ts).length) f p = bG p ts
 | [], p, 0, h, hf => rfl
 | [], p, f + 1, h, hf => by
   simp only [gh, bG, Tre.pE, o8]
   split
   · rw [if_neg (by omega)]
   · rfl
 | t :: ts, p, 0, h, hf => by simp at hf
 | t :: ts, p, f + 1, h, hf => by
   obtain ⟨x, hx, _, hs, _⟩ := h.head.lB
   have hp := t.cV
   simp only [gh, bG, hx]
   rw [if_pos (by simp; omega)]
   have := BX ts (p + t.flat.length) f h.tail (by simp at hf; omega)
   have e : p + x.size.toNat = p + t.flat.length := by omega
   rw [e, <- this]
   congr 2
   simp; omega
theorem DY (h : eQ l p t) : gh l ((p : Int) + t.flat.length) l.length (p + 1) = bG (p + 1) t.kids := by
 have := BX t.kids (p + 1) l.length h.kids (by
  have := h.le
  have := gK t
  have := Tre.nV t.kids
  omega)
 rw [<- this]
 have := gK t
 congr 1
 omega
theorem xo : ∀ (N : Nat) (ts : List Tre) (p : Nat), (Tre.bB ts).length <= N -> jr l p ts -> ∀ i, p <= i -> i < p + (Tre.bB ts).length -> ∃ t, eQ l i t /\ (Tre.rW ts = true -> t.ok = true)
 | N, [], p, hN, h, i, h1, h2 => by simp at h2; omega
 | 0, t :: ts, p, hN, h, i, h1, h2 => by have := t.cV; simp only [Tre.cO, eU] at hN; omega
 | N + 1, .mk k tx n m a ks :: ts, p, hN, h, i, h1, h2 => by
   simp only [Tre.cO, Tre.fW, eU, jL] at hN h2
   by_cases he : i = p
   · subst he
     refine ⟨_, h.head, fun ho => ?_⟩
     rw [Tre.uB, bR] at ho
     exact ho.1
   · by_cases hi : i < p + ((Tre.bB ks).length + 1)
     · obtain ⟨t, ht, ho⟩ := xo N ks (p + 1) (by omega) h.head.kids i (by omega) (by omega)
       refine ⟨t, ht, fun hk => ho ?_⟩
       rw [Tre.uB, Tre.ok] at hk
       simp only [bR] at hk
       exact hk.1.2
     · obtain ⟨t, ht, ho⟩ := xo N ts (p + (Tre.flat (.mk k tx n m a ks)).length) (by omega) h.tail i (by rw [Tre.fW]; simp; omega) (by rw [Tre.fW]; simp; omega)
       refine ⟨t, ht, fun hk => ho ?_⟩
       rw [Tre.uB, bR] at hk
       exact hk.2
end
theorem vb (l : List Nd) (n : Nat) (es : List Int) : ir l n (es.filter ((n : Int) < ·)) = ir l n es := by
 cases l with
 | nil => rfl
 | cons x r => simp only [ir, List.filter_filter, Bool.and_self]
theorem vT : ∀ (N : Nat) (ts : List Tre) (n : Nat) (es : List Int) (r : List Nd), (Tre.bB ts).length <= N -> (∀ e ∈ es, (n : Int) + (Tre.bB ts).length <= e) ->
 ir (Tre.bB ts ++ r) n es = ((decide (ts ≠ []) && decide (60 < es.length + (Tre.jR ts - 1))) || ir r (n + (Tre.bB ts).length) es)
 | N, [], n, es, r, hN, vZ => by simp
 | 0, t :: ts, n, es, r, hN, vZ => by have := t.cV; simp only [Tre.cO, eU] at hN; omega
 | N + 1, .mk k tx a b c ks :: ts, n, es, r, hN, vZ => by
   simp only [Tre.cO, Tre.fW, eU, jL] at hN vZ
   have hfe : es.filter ((n : Int) < ·) = es := by
    rw [List.filter_eq_self]
    intro e he
    have := vZ e he
    simp only [c7]
    omega
   simp only [Tre.cO, Tre.fW, kf, nI, ir, hfe, Tre.kz, Tre.F3]
   by_cases ti : 60 < es.length
   · rw [if_pos ti]
     simp; omega
   · rw [if_neg ti]
     have h1 := vT N ks (n + 1) (es ++ [(n : Int) + (((Tre.bB ks).length : Int) + 1)]) (Tre.bB ts ++ r) (by omega) (fun e he => by
      simp only [eZ, mP] at he
      rcases he with he | rfl
      · have := vZ e he; omega
      · omega)
     rw [h1]
     have h2 : ir (Tre.bB ts ++ r) (n + 1 + (Tre.bB ks).length) (es ++ [(n : Int) + (((Tre.bB ks).length : Int) + 1)]) = ir (Tre.bB ts ++ r) (n + 1 + (Tre.bB ks).length) es := by
      rw [<- vb, <- vb (es := es)]
      congr 1
      rw [List.filter_append]
      have : List.filter (fun x => decide (((n + 1 + (Tre.bB ks).length : Nat) : Int) < x)) [(n : Int) + (((Tre.bB ks).length : Int) + 1)] = [] := by
       rw [List.filter_cons_of_neg, List.filter_nil]
       simp only [c7]; omega
      rw [this, iy]
     rw [h2]
     have h3 := vT N ts (n + 1 + (Tre.bB ks).length) es r (by omega) (fun e he => by have := vZ e he; omega)
     rw [h3]
     have e1 : n + 1 + (Tre.bB ks).length + (Tre.bB ts).length = n + ((Tre.flat (.mk k tx a b c ks)).length + (Tre.bB ts).length) := by rw [Tre.fW]; simp; omega
     have e2 : n + ((Tre.bB ks).length + 1 + (Tre.bB ts).length) = n + 1 + (Tre.bB ks).length + (Tre.bB ts).length := by omega
     simp only [eU, jL, o8, e2, Tre.fW]
     rw [<- Bool.or_assoc]
     congr 1
     rw [lY]
     have hd : ks = [] -> Tre.jR ks = 0 := fun e => by rw [e, Tre.gV]
     have p4 : ts = [] -> Tre.jR ts = 0 := fun e => by rw [e, Tre.gV]
     have hdp : ks ≠ [] -> 0 < Tre.jR ks := fun e => by
      cases ks with
      | nil => exact absurd rfl e
      | cons t ks => rw [Tre.kz]; omega
     have UZ : ts ≠ [] -> 0 < Tre.jR ts := fun e => by
      cases ts with
      | nil => exact absurd rfl e
      | cons t ks => rw [Tre.kz]; omega
     simp only [jt, bR, c7, ne_eq, reduceCtorEq, not_false_eq_true, true_and]
     by_cases hk : ks = []
     · have := hd hk
       by_cases ht : ts = []
       · have := p4 ht
         rw [ht] at this
         simp only [hk, ht, not_true, false_and, or_false, false_iff, Tre.gV]; omega
       · have := UZ ht
         simp only [hk, ht, not_true, false_and, false_or, not_false_eq_true, true_and, Tre.gV]; omega
     · have := hdp hk
       by_cases ht : ts = []
       · simp only [hk, ht, not_true, false_and, or_false, not_false_eq_true, true_and, Tre.gV]; omega
       · have := UZ ht
         simp only [hk, ht, not_false_eq_true, true_and]; omega
     congr 1; omega
theorem Fs (t : Tre) : ir t.flat 0 [] = decide (60 < t.deep) := by
 have := vT t.flat.length [t] 0 [] [] (by simp) (by simp)
 simp only [Tre.cO, Tre.pE, iy, Tre.kz, Tre.gV, ne_eq, reduceCtorEq, not_false_eq_true, bT, Bool.true_and, o8] at this
 rw [this]
 simp only [ir, Bool.or_false]
 rw [lY]; simp only [c7]; omega
theorem Ft (t : Tre) : qL t.flat = (decide (60 < t.deep) || decide (24 < t.kids.length)) := by
 unfold qL
 rw [Fs]
 have h := DY (eQ.whole t)
 have hs : jT t.flat = ((0 : Nat) : Int) + t.flat.length := by
  obtain ⟨x, r, h1, _, h3, _⟩ := t.nU
  rw [h1] at h3 ⊢
  simp only [jT]; omega
 rw [hs, h, kZ]
open Classical in
noncomputable def wL (l : List Nd) : Option Tre := if h : ∃ t : Tre, l = t.flat then some h.choose else none
theorem Nt (t : Tre) : wL t.flat = some t := by
 unfold wL
 have h : ∃ t' : Tre, t.flat = t'.flat := ⟨t, rfl⟩
 rw [dif_pos h]
 have := h.choose_spec
 rw [<- Tre.Oh this]
theorem Cf {l : List Nd} (h : ¬ ∃ t : Tre, l = t.flat) : wL l = none := by unfold wL; rw [dif_neg h]
theorem Nu {l : List Nd} {t : Tre} (h : wL l = some t) : l = t.flat := by
 unfold wL at h
 split at h
 · rename_i h'
   have := h'.choose_spec
   cases h
   exact this
 · cases h
def qH (t : Tre) : Int := if t.kind ≠ 1 \/ t.ok = false then 4 else if 60 < t.deep \/ 24 < t.kids.length then 5 else 0
noncomputable def fi (l : List Nd) : Int := if 900 < l.length then 5 else match wL l with | none => 4 | some t => qH t
theorem Bs (t : Tre) (h : ¬ 900 < t.flat.length) : fi t.flat = qH t := by unfold fi; rw [if_neg h, Nt]
end Go.Rip
namespace Go.Rip
def mA (l : List Nd) (e : Nat) : Nat -> Nat -> Nat
 | 0, p => p
 | f + 1, p => if p < e then mA l e f (p + ((l[p]?.map Nd.size).getD 0).toNat) else p
def bY (l : List Nd) (i : Nat) : Nat := ((l[i]?.map Nd.size).getD 0).toNat
def sY (l : List Nd) : Prop := l ≠ [] /\ jT l = l.length /\ ∀ (i : Nat) (x : Nd), l[i]? = some x -> 1 <= x.size /\ x.size <= (l.length : Int) - i
def tU (l : List Nd) : Prop := sY l /\ ∀ (i : Nat) (x : Nd), l[i]? = some x -> mA l (i + x.size.toNat) l.length (i + 1) = i + x.size.toNat
theorem qt {l : List Nd} {e p : Nat} (h : ¬ p < e) : ∀ f, mA l e f p = p
 | 0 => rfl
 | f + 1 => by rw [mA, if_neg h]
theorem qs {l : List Nd} {e p f : Nat} {x : Nd} (hx : l[p]? = some x) (h : p < e) : mA l e (f + 1) p = mA l e f (p + x.size.toNat) := by
 rw [mA, if_pos h, hx]; rfl
theorem Ar {l : List Nd} : ∀ (ts : List Tre) (p f : Nat), jr l p ts -> ts.length <= f -> mA l (p + (Tre.bB ts).length) f p = p + (Tre.bB ts).length
 | [], p, f, h, hf => by rw [Tre.pE, qt (by simp)]; rfl
 | t :: ts, p, 0, h, hf => by simp at hf
 | t :: ts, p, f + 1, h, hf => by
   obtain ⟨x, hx, _, hs, _⟩ := h.head.lB
   have hp := t.cV
   rw [qs hx (by simp; omega)]
   have := Ar ts (p + t.flat.length) f h.tail (by simp at hf; omega)
   have e : p + x.size.toNat = p + t.flat.length := by omega
   have e2 : p + (Tre.bB (t :: ts)).length = p + t.flat.length + (Tre.bB ts).length := by simp; omega
   rw [e, e2, this]
theorem Io (t : Tre) : tU t.flat := by
 have sub : ∀ i x, t.flat[i]? = some x -> ∃ t', eQ t.flat i t' := fun i x hx => by
  have hi := (dF.1 hx).1
  obtain ⟨t', h, _⟩ := xo (l := t.flat) t.flat.length [t] 0 (by simp) ⟨[], by simp⟩ i (by omega) (by simpa using hi)
  exact ⟨t', h⟩
 refine ⟨⟨?_, ?_, fun i x hx => ?_⟩, fun i x hx => ?_⟩
 · have := t.cV
   intro e; rw [e] at this; simp at this
 · obtain ⟨x, r, h1, _, h3, _⟩ := t.nU
   rw [h1] at h3 ⊢; exact h3
 · obtain ⟨t', h⟩ := sub i x hx
   obtain ⟨y, hy, _, hs, _⟩ := h.lB
   rw [hx] at hy; cases hy
   have := h.le
   have := t'.cV
   omega
 · obtain ⟨t', h⟩ := sub i x hx
   obtain ⟨y, hy, _, hs, _⟩ := h.lB
   rw [hx] at hy; cases hy
   have hl := gK t'
   have := Ar t'.kids (i + 1) t.flat.length h.kids (by
    have := h.le
    have := Tre.nV t'.kids
    omega)
   have e : i + x.size.toNat = i + 1 + (Tre.bB t'.kids).length := by omega
   rw [e]; exact this
theorem wJ {l : List Nd} (hs : tU l) : ∀ (N i e f : Nat), e - i <= N -> i <= e -> e <= l.length -> e - i <= f -> mA l e f i = e -> ∃ ts, l.drop i = Tre.bB ts ++ l.drop e /\ (Tre.bB ts).length = e - i
 | N, i, e, f, hN, Zq, he, hf, hw => by
   by_cases h : i = e
   · subst h; exact ⟨[], by simp, by simp⟩
   · cases N with
     | zero => omega
     | succ N =>
     cases f with
     | zero => omega
     | succ f =>
     obtain ⟨x, hx⟩ : ∃ x, l[i]? = some x := ⟨l[i]'(by omega), by simp⟩
     have BH := hs.1.2.2 i x hx
     rw [qs hx (by omega)] at hw
     have hse : i + x.size.toNat <= e := by
      rcases eM e (i + x.size.toNat) with h1 | h1
      · rw [qt (by omega)] at hw; omega
      · exact h1
     obtain ⟨ks, k1, k2⟩ := wJ hs N (i + 1) (i + x.size.toNat) l.length (by omega) (by omega) (by omega) (by omega) (hs.2 i x hx)
     obtain ⟨ts, t1, t2⟩ := wJ hs N (i + x.size.toNat) e f (by omega) hse he (by omega) hw
     have zC : (Tre.mk x.kind x.text x.n x.m x.at_ ks).flat = x :: Tre.bB ks := by
      rw [Tre.fW]
      have : ((Tre.bB ks).length : Int) + 1 = x.size := by omega
      rw [this]
     refine ⟨.mk x.kind x.text x.n x.m x.at_ ks :: ts, ?_, ?_⟩
     · have hd : l.drop i = x :: l.drop (i + 1) := by
        rw [gy (by omega)]
        have := (dF.1 hx).2
        rw [this]
       rw [hd, k1, t1, Tre.cO, zC]
       simp
     · rw [Tre.cO, zC]; simp; omega
theorem se (l : List Nd) : tU l ↔ ∃ t : Tre, l = t.flat := by
 refine ⟨fun h => ?_, fun ⟨t, ht⟩ => ht ▸ Io t⟩
 cases l with
 | nil => exact absurd rfl h.1.1
 | cons x r =>
   have dD : x.size = (r.length : Int) + 1 := by have := h.1.2.1; simpa [jT] using this
   have hw := h.2 0 x rfl
   obtain ⟨ks, k1, k2⟩ := wJ h r.length 1 (r.length + 1) (r.length + 1) (by omega) (by omega) (by simp) (by omega) (by
    have e : 0 + x.size.toNat = r.length + 1 := by omega
    rw [e] at hw; exact hw)
   refine ⟨.mk x.kind x.text x.n x.m x.at_ ks, ?_⟩
   rw [Tre.fW]
   have hr : r = Tre.bB ks := by
    have : (x :: r).drop 1 = r := rfl
    rw [this, List.drop_of_length_le (by simp), iy] at k1
    exact k1
   rw [<- hr, <- dD]
theorem yR {p : Int -> Bool} : ∀ {l : List Int}, (∀ x ∈ l, p x = true) -> l.takeWhile p = l
 | [], _ => rfl
 | a :: l, h => by rw [nG, if_pos (h a (by simp)), yR fun x hx => h x (by simp [hx])]
theorem EL {p : Int -> Bool} : ∀ {l : List Int}, l.takeWhile p = l -> ∀ x ∈ l, p x = true
 | [], _ => by simp
 | a :: l, h => by
   rw [nG] at h
   split at h
   · rename_i ha
     intro x hx
     rcases dS.1 hx with rfl | hx
     · exact ha
     · exact EL (List.cons.inj h).2 x hx
   · cases h
theorem RW (c : qD) (lo hi : Nat) (ks : List Int) : dy ks [⟨c, lo, hi⟩] = (decide (lo <= ks.length /\ ks.length <= hi) && ks.all c.is) := by
 rw [dy]
 simp only [hC, List.sum_nil, Nat.sub_zero, dy]
 have hle : ((ks.take (min ks.length hi)).takeWhile c.is).length <= min ks.length hi := by
  have := (ri c.is (l := ks.take (min ks.length hi))).length_le
  rw [List.length_take] at this; omega
 rw [lY]
 constructor
 · intro h
   split at h
   · cases h
   · rename_i h1
     have h2 : ks.length <= ((ks.take (min ks.length hi)).takeWhile c.is).length := by
      have : (ks.drop ((ks.take (min ks.length hi)).takeWhile c.is).length).length = 0 := by
       rw [List.isEmpty_iff.1 h]; rfl
      rw [List.length_drop] at this; omega
     have Y7 := Nat.le_trans h2 hle
     have h3 : ks.take (min ks.length hi) = ks := o7 (by omega)
     rw [h3] at h1 h2
     have h4 : ks.takeWhile c.is = ks := (ri c.is).eq_of_length_le h2
     have h5 := EL h4
     rw [h4] at h1
     simp only [bR, c7, ef]
     exact ⟨⟨by omega, by omega⟩, h5⟩
 · intro h
   simp only [bR, c7, ef] at h
   obtain ⟨⟨h1, h2⟩, h3⟩ := h
   have e1 : ks.take (min ks.length hi) = ks := o7 (by omega)
   have e2 : ks.takeWhile c.is = ks := yR h3
   rw [e1, e2, if_neg (by omega)]
   simp
theorem nr : ∀ (cs : List qD) (ks : List Int), dy ks (cs.map fun c => ⟨c, 1, 1⟩) = true -> ks.length = cs.length
 | [], ks, h => by simp only [hC, dy, List.isEmpty_iff] at h; simp [h]
 | c :: cs, ks, h => by
   rw [dJ, dy] at h
   simp only at h
   split at h
   · cases h
   · rename_i h1
     have h7 := nr cs _ h
     have hle : ∀ n, ((ks.take (min n 1)).takeWhile c.is).length <= 1 /\ ((ks.take (min n 1)).takeWhile c.is).length <= ks.length := fun n => by
      have := (ri c.is (l := ks.take (min n 1))).length_le
      rw [List.length_take] at this; omega
     have h8 := hle (ks.length - ((cs.map fun c => (⟨c, 1, 1⟩ : mB)).map (·.least)).sum)
     rw [List.length_drop] at h7
     have key : ∀ q a b : Nat, ¬ q < 1 -> a - q = b -> q <= 1 /\ q <= a -> a = b + 1 := by omega
     rw [jL]
     exact key _ _ _ h1 h7 h8
theorem EH (cs : List qD) : ((cs.map fun c => (⟨c, 1, 1⟩ : mB)).map (·.least)).sum = cs.length := by
 induction cs with
 | nil => rfl
 | cons c cs ih => simp only [dJ, List.sum_cons, jL, ih]; omega
theorem iK (c : qD) (cs : List qD) (k : Int) (ks : List Int) (h : ks.length = cs.length) : dy (k :: ks) (⟨c, 1, 1⟩ :: cs.map fun c => ⟨c, 1, 1⟩) = (c.is k && dy ks (cs.map fun c => ⟨c, 1, 1⟩)) := by
 rw [dy]
 simp only [EH]
 have : min ((k :: ks).length - cs.length) 1 = 1 := by simp; omega
 rw [this]
 simp only [List.take_succ_cons, List.take_zero, nG, List.takeWhile_nil]
 cases c.is k <;> simp
theorem xG (s : mB) (cs : List qD) (ks : List Int) (hm : ks.length <= s.mL + cs.length) : dy ks (s :: cs.map fun c => ⟨c, 1, 1⟩) = (decide (s.least + cs.length <= ks.length) && ((ks.take (ks.length - cs.length)).all s.c.is && dy (ks.drop (ks.length - cs.length)) (cs.map fun c => ⟨c, 1, 1⟩))) := by
 rw [dy]
 simp only [EH]
 have e0 : min (ks.length - cs.length) s.mL = ks.length - cs.length := by omega
 rw [e0]
 have hle : ((ks.take (ks.length - cs.length)).takeWhile s.c.is).length <= ks.length - cs.length := by
  have := (ri s.c.is (l := ks.take (ks.length - cs.length))).length_le
  rw [List.length_take] at this; omega
 by_cases bm : ∀ x ∈ ks.take (ks.length - cs.length), s.c.is x = true
 · have e2 : (ks.take (ks.length - cs.length)).takeWhile s.c.is = ks.take (ks.length - cs.length) := yR bm
   have e3 : (ks.take (ks.length - cs.length)).all s.c.is = true := ef.2 bm
   rw [e2, e3, List.length_take, Nat.min_eq_left (by omega)]
   by_cases h : s.least + cs.length <= ks.length
   · rw [if_neg (by omega)]; simp [h]
   · rw [decide_eq_false h, Bool.false_and]
     by_cases h2 : ks.length - cs.length < s.least
     · rw [if_pos h2]
     · rw [if_neg h2]
       have : s.least = 0 := by omega
       cases hf : dy (ks.drop (ks.length - cs.length)) (cs.map fun c => ⟨c, 1, 1⟩) with
       | false => rfl
       | true =>
         have := nr cs _ hf
         rw [List.length_drop] at this
         omega
 · have e3 : (ks.take (ks.length - cs.length)).all s.c.is = false := by
    cases h : (ks.take (ks.length - cs.length)).all s.c.is with
    | false => rfl
    | true => exact absurd (ef.1 h) bm
   rw [e3, Bool.false_and, Bool.and_false]
   have aJ : ((ks.take (ks.length - cs.length)).takeWhile s.c.is).length < ks.length - cs.length := by
    refine Nat.lt_of_le_of_ne hle fun e => bm ?_
    have : (ks.take (ks.length - cs.length)).takeWhile s.c.is = ks.take (ks.length - cs.length) := (ri _).eq_of_length_le (by rw [List.length_take]; omega)
    exact EL this
   split
   · rfl
   · cases hf : dy (ks.drop ((ks.take (ks.length - cs.length)).takeWhile s.c.is).length) (cs.map fun c => ⟨c, 1, 1⟩) with
     | false => rfl
     | true =>
       have := nr cs _ hf
       rw [List.length_drop] at this
       omega
end Go.Rip
namespace Go.Rip
mutual
def lN : Nat -> Tre -> List Nat
 | d, .mk _ _ _ _ _ ks => d :: kB (d + 1) ks
def kB : Nat -> List Tre -> List Nat
 | _, [] => []
 | d, t :: ts => lN d t ++ kB d ts
end
@[simp] theorem IX {d : Nat} : kB d [] = [] := by rw [kB]
@[simp] theorem uc {d : Nat} {t : Tre} {ts : List Tre} : kB d (t :: ts) = lN d t ++ kB d ts := by rw [kB]
theorem s8 {d : Nat} {k : Int} {t : bh} {n m a : Int} {ks : List Tre} : lN d (.mk k t n m a ks) = d :: kB (d + 1) ks := by rw [lN]
theorem qJ : ∀ (N : Nat) (ts : List Tre) (d : Nat), (Tre.bB ts).length <= N -> (kB d ts).length = (Tre.bB ts).length
 | _, [], _, _ => by simp
 | 0, t :: ts, _, h => by have := t.cV; simp only [Tre.cO, eU] at h; omega
 | N + 1, .mk k t n m a ks :: ts, d, h => by
   simp only [Tre.cO, Tre.fW, eU, jL] at h
   have h1 := qJ N ks (d + 1) (by omega)
   have h2 := qJ N ts d (by omega)
   simp only [uc, s8, Tre.cO, Tre.fW, eU, jL, h1, h2]
theorem sv (d : Nat) (t : Tre) : (lN d t).length = t.flat.length := by
 have := qJ _ [t] d (cX _)
 simpa using this
theorem AF : ∀ (N : Nat) (ts : List Tre) (d c : Nat), (Tre.bB ts).length <= N -> ((∃ x ∈ kB d ts, c < x) ↔ ts ≠ [] /\ c < d + (Tre.jR ts - 1))
 | _, [], _, _, _ => by simp
 | 0, t :: ts, _, _, h => by have := t.cV; simp only [Tre.cO, eU] at h; omega
 | N + 1, .mk k t n m a ks :: ts, d, c, h => by
   simp only [Tre.cO, Tre.fW, eU, jL] at h
   have h1 := AF N ks (d + 1) c (by omega)
   have h2 := AF N ts d c (by omega)
   have e : (∃ x ∈ kB d (Tre.mk k t n m a ks :: ts), c < x) ↔ (c < d \/ (∃ x ∈ kB (d + 1) ks, c < x)) \/ ∃ x ∈ kB d ts, c < x := by
    simp only [uc, s8, kf, dS, eZ]
    constructor
    · rintro ⟨x, rfl | hx | hx, hc⟩
      · exact .inl (.inl hc)
      · exact .inl (.inr ⟨x, hx, hc⟩)
      · exact .inr ⟨x, hx, hc⟩
    · rintro ((hc | ⟨x, hx, hc⟩) | ⟨x, hx, hc⟩)
      · exact ⟨d, .inl rfl, hc⟩
      · exact ⟨x, .inr (.inl hx), hc⟩
      · exact ⟨x, .inr (.inr hx), hc⟩
   rw [e, h1, h2]
   simp only [Tre.kz, Tre.F3, ne_eq, reduceCtorEq, not_false_eq_true, true_and]
   have hd : ∀ l : List Tre, l = [] -> Tre.jR l = 0 := fun l e => by rw [e, Tre.gV]
   have hp : ∀ l : List Tre, ¬ l = [] -> 0 < Tre.jR l := fun l e => by
    cases l with
    | nil => exact absurd rfl e
    | cons t l => rw [Tre.kz]; omega
   by_cases hk : ks = []
   · have := hd ks hk
     by_cases ht : ts = []
     · have := hd ts ht
       simp only [hk, ht, not_true, false_and, or_false, Tre.gV]; omega
     · have := hp ts ht
       simp only [hk, ht, not_true, false_and, or_false, not_false_eq_true, true_and, Tre.gV]; omega
   · have := hp ks hk
     by_cases ht : ts = []
     · simp only [hk, ht, not_true, false_and, or_false, not_false_eq_true, true_and, Tre.gV]; omega
     · have := hp ts ht
       simp only [hk, ht, not_false_eq_true, true_and]; omega
theorem C5 (t : Tre) : (∃ x ∈ lN 0 t, 60 < x) ↔ 60 < t.deep := by
 have := AF _ [t] 0 60 (cX _)
 simp only [uc, IX, iy, ne_eq, reduceCtorEq, not_false_eq_true, true_and, Tre.kz, Tre.gV] at this
 rw [this]; omega
def oX (D : List Nat) (p d : Nat) (ts : List Tre) : Prop := ∃ r, D.drop p = kB d ts ++ r
section
variable {l : List Nd} {D : List Nat} {p d : Nat} {t : Tre} {ts : List Tre}
theorem oX.lB (h : oX D p d (t :: ts)) : D[p]? = some d := by
 obtain ⟨r, h⟩ := h
 have : (D.drop p)[0]? = some d := by
  rw [h]
  cases t
  simp [s8]
 simpa using this
theorem oX.tail (h : oX D p d (t :: ts)) : oX D (p + t.flat.length) d ts := by
 obtain ⟨r, h⟩ := h
 refine ⟨r, ?_⟩
 rw [<- List.drop_drop, h, <- sv d t]
 simp
theorem oX.kids (h : oX D p d (t :: ts)) : oX D (p + 1) (d + 1) t.kids := by
 obtain ⟨r, h⟩ := h
 cases t with
 | mk k tx n m a ks =>
 refine ⟨kB d ts ++ r, ?_⟩
 rw [<- List.drop_drop, h]
 simp [s8, Tre.kids]
theorem oX.bG : ∀ {ts : List Tre} {p : Nat}, oX D p d ts -> ∀ i ∈ bG p ts, D[i]? = some d
 | [], p, h, i, hi => by simp [Rip.bG] at hi
 | t :: ts, p, h, i, hi => by
   simp only [Rip.bG, dS] at hi
   rcases hi with rfl | hi
   · exact h.lB
   · exact h.tail.bG i hi
theorem wz : ∀ (N : Nat) (ts : List Tre) (p d : Nat), (Tre.bB ts).length <= N -> jr l p ts -> oX D p d ts -> ∀ i, p <= i -> i < p + (Tre.bB ts).length ->
 (∃ s e, eQ l i s /\ D[i]? = some e /\ oX D (i + 1) (e + 1) s.kids /\ e + p <= d + i) /\ (i ∈ bG p ts \/ ∃ i' s', p <= i' /\ i' < i /\ eQ l i' s' /\ i ∈ bG (i' + 1) s'.kids)
 | N, [], p, d, hN, h, hd, i, h1, h2 => by simp at h2; omega
 | 0, t :: ts, p, d, hN, h, hd, i, h1, h2 => by have := t.cV; simp only [Tre.cO, eU] at hN; omega
 | N + 1, t :: ts, p, d, hN, h, hd, i, h1, h2 => by
   have qO := gK t
   simp only [Tre.cO, eU] at hN h2
   by_cases he : i = p
   · subst he
     exact ⟨⟨t, d, h.head, hd.lB, hd.kids, cX _⟩, .inl (by simp [bG])⟩
   · by_cases hi : i < p + t.flat.length
     · obtain ⟨⟨s, e, a1, a2, a3, a4⟩, b⟩ := wz N t.kids (p + 1) (d + 1) (by omega) h.head.kids hd.kids i (by omega) (by omega)
       refine ⟨⟨s, e, a1, a2, a3, by omega⟩, .inr ?_⟩
       rcases b with b | ⟨i', s', b1, b2, b3⟩
       · exact ⟨p, t, cX _, by omega, h.head, b⟩
       · exact ⟨i', s', by omega, b2, b3⟩
     · have := t.cV
       obtain ⟨⟨s, e, a1, a2, a3, a4⟩, b⟩ := wz N ts (p + t.flat.length) d (by omega) h.tail hd.tail i (by omega) (by omega)
       refine ⟨⟨s, e, a1, a2, a3, by omega⟩, ?_⟩
       rcases b with b | ⟨i', s', b1, b2, b3⟩
       · exact .inl (by simp [bG, b])
       · exact .inr ⟨i', s', by omega, b2, b3⟩
end
theorem place (t : Tre) {i : Nat} (hi : i < t.flat.length) : (∃ s e, eQ t.flat i s /\ (lN 0 t)[i]? = some e /\ oX (lN 0 t) (i + 1) (e + 1) s.kids /\ e <= i) /\ (i = 0 \/ ∃ i' s', i' < i /\ eQ t.flat i' s' /\ i ∈ bG (i' + 1) s'.kids) := by
 obtain ⟨⟨s, e, a1, a2, a3, a4⟩, b⟩ := wz (l := t.flat) (D := lN 0 t) t.flat.length [t] 0 0 (by simp) ⟨[], by simp⟩ ⟨[], by simp⟩ i (by omega) (by simpa using hi)
 refine ⟨⟨s, e, a1, a2, a3, by omega⟩, ?_⟩
 rcases b with b | ⟨i', s', b1, b2, b3⟩
 · simp only [bG, dS, List.not_mem_nil, or_false] at b
   exact .inl b
 · exact .inr ⟨i', s', b2, b3⟩
theorem eQ.inj {l : List Nd} {i : Nat} {s s' : Tre} (h : eQ l i s) (k : eQ l i s') : s = s' := by
 obtain ⟨r, h1⟩ := h
 obtain ⟨r', h2⟩ := k
 obtain ⟨x, hx, _, hs, _⟩ := eQ.lB ⟨r, h1⟩
 obtain ⟨x', gP, _, dL, _⟩ := eQ.lB ⟨r', h2⟩
 rw [hx] at gP; cases gP
 have := Tre.rF s.flat.length [s] [s'] r r' (by simp) (by simpa using h1.symm.trans h2) (by simp; omega)
 simpa using this
end Go.Rip
