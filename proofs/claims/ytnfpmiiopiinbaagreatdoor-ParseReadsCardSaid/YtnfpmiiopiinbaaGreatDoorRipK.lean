/- Lemmas for the proof: no conditions. -/
import Derived.Test.YtnfpmiiopiinbaaGreatDoorRipZz
import Derived.Test.YtnfpmiiopiinbaaGreatDoorRipI
set_option linter.unusedVariables false
set_option linter.unusedSimpArgs false
set_option linter.loopingSimpArgs false
namespace Go.Rip
inductive kH where
 | item | type | base | term | arg | kind (k : Int)
def dZ (k : Int) : Bool := decide (9 <= k /\ k <= 34)
def lU (k : Int) : Bool := decide (k = 6 \/ k = 7)
def sB (k : Int) : Bool := decide (k = 6 \/ k = 7 \/ k = 8)
def ke (k : Int) : Bool := decide (2 <= k /\ k <= 4)
def jG (k : Int) : Bool := decide (9 <= k /\ k <= 36)
def kH.is : kH -> Int -> Bool
 | .item, k => ke k
 | .type, k => sB k
 | .base, k => lU k
 | .term, k => dZ k
 | .arg, k => jG k
 | .kind c, k => decide (k = c)
structure uO where
 c : kH
 least : Nat
 CS : Nat
structure HO where
 text : Bool
 n : Bool
 m : Bool
 kids : List uO
def fo (k : Int) : Option HO :=
 if k = 1 then some ⟨false, false, false, [⟨.item, 0, 900⟩]⟩
 else if k = 2 then some ⟨true, false, false, [⟨.type, 1, 1⟩]⟩
 else if k = 3 \/ k = 4 then some ⟨true, false, false, [⟨.kind 5, 0, 900⟩, ⟨.base, 1, 1⟩, ⟨.term, 1, 1⟩]⟩
 else if k = 5 then some ⟨true, false, false, [⟨.type, 1, 1⟩]⟩
 else if k = 6 \/ k = 7 then some ⟨false, true, false, []⟩
 else if k = 8 then some ⟨false, false, false, [⟨.base, 2, 900⟩]⟩
 else if k = 9 then some ⟨false, false, false, [⟨.term, 2, 900⟩]⟩
 else if k = 10 then some ⟨false, false, false, [⟨.term, 3, 3⟩]⟩
 else if k = 11 \/ k = 15 \/ k = 17 \/ k = 18 \/ 20 <= k /\ k <= 24 then some ⟨false, false, false, [⟨.term, 2, 2⟩]⟩
 else if k = 12 then some ⟨true, true, true, [⟨.term, 1, 1⟩]⟩
 else if k = 13 then some ⟨true, false, false, [⟨.term, 2, 2⟩]⟩
 else if k = 14 then some ⟨true, true, false, [⟨.term, 1, 1⟩]⟩
 else if k = 16 then some ⟨true, false, false, [⟨.term, 1, 1⟩]⟩
 else if k = 19 then some ⟨false, false, false, [⟨.term, 1, 1⟩]⟩
 else if k = 25 then some ⟨false, true, false, [⟨.term, 1, 1⟩]⟩
 else if k = 26 then some ⟨false, true, false, []⟩
 else if 27 <= k /\ k <= 30 then some ⟨false, false, false, []⟩
 else if k = 31 \/ k = 32 \/ k = 33 \/ k = 37 then some ⟨true, false, false, []⟩
 else if k = 34 then some ⟨true, false, false, [⟨.arg, 1, 900⟩]⟩
 else if k = 35 then some ⟨false, false, false, [⟨.kind 37, 1, 900⟩, ⟨.term, 1, 1⟩]⟩
 else if k = 36 then some ⟨false, false, false, [⟨.term, 1, 1⟩, ⟨.kind 37, 1, 1⟩, ⟨.term, 1, 1⟩]⟩
 else none
def dK : List Int -> List uO -> Bool
 | ks, [] => ks.isEmpty
 | ks, s :: rest =>
   let many := ((ks.take (min (ks.length - (rest.map (·.least)).sum) s.CS)).takeWhile s.c.is).length
   if many < s.least then false else dK (ks.drop many) rest
def nN (s : aZ) : Bool := decide (gx s = (0, 1, s))
def ga (n : Int) : Bool := decide (0 <= n /\ n <= 1000000)
def eW (x : Nd) (f : HO) : Bool := (f.text == (x.text != [])) && (!f.text || nN x.text) && ga x.n && ga x.m && (f.n || x.n == 0) && (f.m || x.m == 0)
inductive Tre where
 | mk (kind : Int) (text : aZ) (n m at_ : Int) (kids : List Tre)
namespace Tre
def kind : Tre -> Int | mk k _ _ _ _ _ => k
def text : Tre -> aZ | mk _ t _ _ _ _ => t
def n : Tre -> Int | mk _ _ n _ _ _ => n
def m : Tre -> Int | mk _ _ _ m _ _ => m
def at_ : Tre -> Int | mk _ _ _ _ a _ => a
def kids : Tre -> List Tre | mk _ _ _ _ _ ks => ks
mutual
def flat : Tre -> List Nd
 | mk k t n m a ks => node k t n m a (bV ks)
def bV : List Tre -> List Nd
 | [] => []
 | t :: ts => flat t ++ bV ts
end
mutual
def ok : Tre -> Bool
 | mk k t n m a ks => (match fo k with
   | some f => eW ⟨k, t, n, m, a, 0⟩ f && dK (ks.map kind) f.kids
   | none => false) && r9 ks
def r9 : List Tre -> Bool
 | [] => true
 | t :: ts => ok t && r9 ts
end
mutual
def deep : Tre -> Nat
 | mk _ _ _ _ _ ks => lG ks
def lG : List Tre -> Nat
 | [] => 0
 | t :: ts => max (deep t + 1) (lG ts)
end
end Tre
namespace Tre
end Tre
end Go.Rip
namespace Go.Rip
def lX (l : List Nd) (en : Int) : Nat -> Nat -> List Nat
 | 0, _ => []
 | f + 1, p => match l[p]? with
   | some x => if (p : Int) < en /\ 0 < x.size then p :: lX l en f (p + x.size.toNat) else []
   | none => []
def jE : List Nd -> Nat -> List Int -> Bool
 | [], _, _ => false
 | x :: r, n, es => if 60 < (es.filter ((n : Int) < ·)).length then true else jE r (n + 1) (es.filter ((n : Int) < ·) ++ [(n : Int) + x.size])
def mF (l : List Nd) : Int := match l with | x :: _ => x.size | [] => 0
def lR (l : List Nd) : Bool := jE l 0 [] || decide (24 < (lX l (mF l) l.length 1).length)
namespace Tre
theorem fG {k : Int} {t : aZ} {n m a : Int} {ks : List Tre} : flat (mk k t n m a ks) = ⟨k, t, n, m, a, ((bV ks).length : Int) + 1⟩ :: bV ks := by rw [flat]; rfl
@[simp] theorem rB : bV [] = [] := by rw [bV]
@[simp] theorem dj {t : Tre} {ts : List Tre} : bV (t :: ts) = flat t ++ bV ts := by rw [bV]
theorem ki : ∀ (l l' : List Tre), bV (l ++ l') = bV l ++ bV l'
 | [], l' => by simp
 | t :: l, l' => by simp [ki l l']
@[simp] theorem acY : r9 [] = true := by rw [r9]
@[simp] theorem td {t : Tre} {ts : List Tre} : r9 (t :: ts) = (ok t && r9 ts) := by rw [r9]
theorem qi : ∀ (l l' : List Tre), r9 (l ++ l') = (r9 l && r9 l')
 | [], l' => by simp
 | t :: l, l' => by simp [qi l l', Bool.and_assoc]
@[simp] theorem HW {k : Int} {t : aZ} {n m a : Int} {ks : List Tre} : deep (mk k t n m a ks) = lG ks := by rw [deep]
@[simp] theorem jc : lG [] = 0 := by rw [lG]
@[simp] theorem mj {t : Tre} {ts : List Tre} : lG (t :: ts) = max (deep t + 1) (lG ts) := by rw [lG]
theorem eh : ∀ t : Tre, 0 < t.flat.length
 | mk k t n m a ks => by rw [fG]; simp
theorem pB : ∀ ts : List Tre, ts.length <= (bV ts).length
 | [] => by simp
 | t :: ts => by
   have := pB ts
   have := eh t
   simp; omega
theorem tD : ∀ t : Tre, ∃ x r, t.flat = x :: r /\ x.kind = t.kind /\ x.size = t.flat.length /\ x.text = t.text /\ x.n = t.n /\ x.m = t.m /\ x.at_ = t.at_ /\ r = bV t.kids
 | mk k t n m a ks => ⟨_, _, fG, rfl, by rw [fG]; simp, rfl, rfl, rfl, rfl, rfl⟩
theorem tE : ∀ (N : Nat) (ts zW : List Tre) (r r' : List Nd), (bV ts).length <= N -> bV ts ++ r = bV zW ++ r' -> (bV ts).length = (bV zW).length -> ts = zW
 | N, [], [], _, _, _, _, _ => rfl
 | N, [], t :: ts, _, _, _, _, h => by have := eh t; simp only [dj, rB, eQ, qm] at h; omega
 | N, t :: ts, [], _, _, _, _, h => by have := eh t; simp only [dj, rB, eQ, qm] at h; omega
 | 0, t :: ts, _, _, _, hN, _, _ => by have := eh t; simp only [dj, eQ] at hN; omega
 | N + 1, mk k t n m a ks :: ts, mk k' t' n' m' a' ks' :: zW, r, r', hN, h, hl => by
   simp only [dj, fG, nT, qT, List.cons.injEq, Nd.mk.injEq, lk, eQ] at h hl hN
   obtain ⟨⟨rfl, rfl, rfl, rfl, rfl, hs⟩, h⟩ := h
   have hs : (bV ks).length = (bV ks').length := by omega
   have e := tE N ks ks' (bV ts ++ r) (bV zW ++ r') (by omega) h hs
   subst e
   have h2 := List.append_cancel_left h
   have e := tE N ts zW r r' (by omega) h2 (by omega)
   rw [e]
theorem QJ {t t' : Tre} (h : t.flat = t'.flat) : t = t' := by
 have := tE (bV [t]).length [t] [t'] [] [] (cG _) (by simp [h]) (by simp [h])
 simpa using this
end Tre
def cX : Nat -> List Tre -> List Nat
 | _, [] => []
 | p, t :: ts => p :: cX (p + t.flat.length) ts
theorem mQ : ∀ (p : Nat) (ts : List Tre), (cX p ts).length = ts.length
 | _, [] => rfl
 | p, t :: ts => by simp [cX, mQ]
def lL (l : List Nd) (p : Nat) (ts : List Tre) : Prop := ∃ r, l.drop p = Tre.bV ts ++ r
def gU (l : List Nd) (p : Nat) (t : Tre) : Prop := ∃ r, l.drop p = t.flat ++ r
section
variable {l : List Nd} {p : Nat} {t : Tre} {ts : List Tre}
theorem lL.head (h : lL l p (t :: ts)) : gU l p t := by
 obtain ⟨r, h⟩ := h
 exact ⟨Tre.bV ts ++ r, by rw [h]; simp⟩
theorem lL.tail (h : lL l p (t :: ts)) : lL l (p + t.flat.length) ts := by
 obtain ⟨r, h⟩ := h
 refine ⟨r, ?_⟩
 rw [<- List.drop_drop, h]
 simp
theorem lL.app {zW : List Tre} (h : lL l p (ts ++ zW)) : lL l p ts /\ lL l (p + (Tre.bV ts).length) zW := by
 obtain ⟨r, h⟩ := h
 refine ⟨⟨Tre.bV zW ++ r, by rw [h, Tre.ki]; simp⟩, ⟨r, ?_⟩⟩
 rw [<- List.drop_drop, h, Tre.ki]
 simp
theorem gU.ru (h : gU l p t) : ∃ x, l[p]? = some x /\ x.kind = t.kind /\ x.size = t.flat.length /\ x.text = t.text /\ x.n = t.n /\ x.m = t.m /\ x.at_ = t.at_ := by
 obtain ⟨r, h⟩ := h
 obtain ⟨x, r', h1, h2, h3, h4, h5, h6, h7, h8⟩ := t.tD
 refine ⟨x, ?_, h2, h3, h4, h5, h6, h7⟩
 rw [h1] at h
 have : (l.drop p)[0]? = some x := by rw [h]; rfl
 simpa using this
theorem gU.le (h : gU l p t) : p + t.flat.length <= l.length := by
 obtain ⟨r, h⟩ := h
 have h' := congrArg List.length h
 have := t.eh
 simp only [List.length_drop, eQ] at h'; omega
theorem lL.le (h : lL l p ts) (hp : p <= l.length) : p + (Tre.bV ts).length <= l.length := by
 obtain ⟨r, h⟩ := h
 have := congrArg List.length h
 simp at this; omega
theorem gU.kids (h : gU l p t) : lL l (p + 1) t.kids := by
 obtain ⟨r, h⟩ := h
 obtain ⟨x, r', h1, h2, h3, h4, h5, h6, h7, h8⟩ := t.tD
 refine ⟨r, ?_⟩
 rw [<- List.drop_drop, h, h1, h8]
 rfl
theorem nI (t : Tre) : t.flat.length = (Tre.bV t.kids).length + 1 := by
 cases t with
 | mk k t n m a ks => rw [Tre.fG]; rfl
theorem gU.whole (t : Tre) : gU t.flat 0 t := ⟨[], by simp⟩
theorem DQ : ∀ (ts : List Tre) (p f : Nat), lL l p ts -> ts.length <= f -> lX l ((p : Int) + (Tre.bV ts).length) f p = cX p ts
 | [], p, 0, h, hf => rfl
 | [], p, f + 1, h, hf => by
   simp only [lX, cX, Tre.rB, qm]
   split
   · rw [if_neg (by omega)]
   · rfl
 | t :: ts, p, 0, h, hf => by simp at hf
 | t :: ts, p, f + 1, h, hf => by
   obtain ⟨x, hx, _, hs, _⟩ := h.head.ru
   have hp := t.eh
   simp only [lX, cX, hx]
   rw [if_pos (by simp; omega)]
   have := DQ ts (p + t.flat.length) f h.tail (by simp at hf; omega)
   have e : p + x.size.toNat = p + t.flat.length := by omega
   rw [e, <- this]
   congr 2
   simp; omega
theorem Ri (h : gU l p t) : lX l ((p : Int) + t.flat.length) l.length (p + 1) = cX (p + 1) t.kids := by
 have := DQ t.kids (p + 1) l.length h.kids (by
  have := h.le
  have := nI t
  have := Tre.pB t.kids
  omega)
 rw [<- this]
 have := nI t
 congr 1
 omega
theorem zk : ∀ (N : Nat) (ts : List Tre) (p : Nat), (Tre.bV ts).length <= N -> lL l p ts -> ∀ i, p <= i -> i < p + (Tre.bV ts).length -> ∃ t, gU l i t /\ (Tre.r9 ts = true -> t.ok = true)
 | N, [], p, hN, h, i, h1, h2 => by simp at h2; omega
 | 0, t :: ts, p, hN, h, i, h1, h2 => by have := t.eh; simp only [Tre.dj, eQ] at hN; omega
 | N + 1, .mk k tx n m a ks :: ts, p, hN, h, i, h1, h2 => by
   simp only [Tre.dj, Tre.fG, eQ, lk] at hN h2
   by_cases he : i = p
   · subst he
     refine ⟨_, h.head, fun ho => ?_⟩
     rw [Tre.td, cF] at ho
     exact ho.1
   · by_cases hi : i < p + ((Tre.bV ks).length + 1)
     · obtain ⟨t, ht, ho⟩ := zk N ks (p + 1) (by omega) h.head.kids i (by omega) (by omega)
       refine ⟨t, ht, fun hk => ho ?_⟩
       rw [Tre.td, Tre.ok] at hk
       simp only [cF] at hk
       exact hk.1.2
     · obtain ⟨t, ht, ho⟩ := zk N ts (p + (Tre.flat (.mk k tx n m a ks)).length) (by omega) h.tail i (by rw [Tre.fG]; simp; omega) (by rw [Tre.fG]; simp; omega)
       refine ⟨t, ht, fun hk => ho ?_⟩
       rw [Tre.td, cF] at hk
       exact hk.2
end
theorem wV (l : List Nd) (n : Nat) (es : List Int) : jE l n (es.filter ((n : Int) < ·)) = jE l n es := by
 cases l with
 | nil => rfl
 | cons x r => simp only [jE, List.filter_filter, Bool.and_self]
theorem xI : ∀ (N : Nat) (ts : List Tre) (n : Nat) (es : List Int) (r : List Nd), (Tre.bV ts).length <= N -> (∀ e ∈ es, (n : Int) + (Tre.bV ts).length <= e) ->
 jE (Tre.bV ts ++ r) n es = ((decide (ts ≠ []) && decide (60 < es.length + (Tre.lG ts - 1))) || jE r (n + (Tre.bV ts).length) es)
 | N, [], n, es, r, hN, xM => by simp
 | 0, t :: ts, n, es, r, hN, xM => by have := t.eh; simp only [Tre.dj, eQ] at hN; omega
 | N + 1, .mk k tx a b c ks :: ts, n, es, r, hN, xM => by
   simp only [Tre.dj, Tre.fG, eQ, lk] at hN xM
   have hfe : es.filter ((n : Int) < ·) = es := by
    rw [List.filter_eq_self]
    intro e he
    have := xM e he
    simp only [ej]
    omega
   simp only [Tre.dj, Tre.fG, nT, qT, jE, hfe, Tre.mj, Tre.HW]
   by_cases Bo : 60 < es.length
   · rw [if_pos Bo]
     simp; omega
   · rw [if_neg Bo]
     have h1 := xI N ks (n + 1) (es ++ [(n : Int) + (((Tre.bV ks).length : Int) + 1)]) (Tre.bV ts ++ r) (by omega) (fun e he => by
      simp only [gg, nS] at he
      rcases he with he | rfl
      · have := xM e he; omega
      · omega)
     rw [h1]
     have h2 : jE (Tre.bV ts ++ r) (n + 1 + (Tre.bV ks).length) (es ++ [(n : Int) + (((Tre.bV ks).length : Int) + 1)]) = jE (Tre.bV ts ++ r) (n + 1 + (Tre.bV ks).length) es := by
      rw [<- wV, <- wV (es := es)]
      congr 1
      rw [List.filter_append]
      have : List.filter (fun x => decide (((n + 1 + (Tre.bV ks).length : Nat) : Int) < x)) [(n : Int) + (((Tre.bV ks).length : Int) + 1)] = [] := by
       rw [List.filter_cons_of_neg, List.filter_nil]
       simp only [ej]; omega
      rw [this, mB]
     rw [h2]
     have h3 := xI N ts (n + 1 + (Tre.bV ks).length) es r (by omega) (fun e he => by have := xM e he; omega)
     rw [h3]
     have e1 : n + 1 + (Tre.bV ks).length + (Tre.bV ts).length = n + ((Tre.flat (.mk k tx a b c ks)).length + (Tre.bV ts).length) := by rw [Tre.fG]; simp; omega
     have e2 : n + ((Tre.bV ks).length + 1 + (Tre.bV ts).length) = n + 1 + (Tre.bV ks).length + (Tre.bV ts).length := by omega
     simp only [eQ, lk, qm, e2, Tre.fG]
     rw [<- Bool.or_assoc]
     congr 1
     rw [nq]
     have hd : ks = [] -> Tre.lG ks = 0 := fun e => by rw [e, Tre.jc]
     have pC : ts = [] -> Tre.lG ts = 0 := fun e => by rw [e, Tre.jc]
     have hdp : ks ≠ [] -> 0 < Tre.lG ks := fun e => by
      cases ks with
      | nil => exact absurd rfl e
      | cons t ks => rw [Tre.mj]; omega
     have X1 : ts ≠ [] -> 0 < Tre.lG ts := fun e => by
      cases ts with
      | nil => exact absurd rfl e
      | cons t ks => rw [Tre.mj]; omega
     simp only [ln, cF, ej, ne_eq, reduceCtorEq, not_false_eq_true, true_and]
     by_cases hk : ks = []
     · have := hd hk
       by_cases ht : ts = []
       · have := pC ht
         rw [ht] at this
         simp only [hk, ht, not_true, false_and, or_false, false_iff, Tre.jc]; omega
       · have := X1 ht
         simp only [hk, ht, not_true, false_and, false_or, not_false_eq_true, true_and, Tre.jc]; omega
     · have := hdp hk
       by_cases ht : ts = []
       · simp only [hk, ht, not_true, false_and, or_false, not_false_eq_true, true_and, Tre.jc]; omega
       · have := X1 ht
         simp only [hk, ht, not_false_eq_true, true_and]; omega
     congr 1; omega
theorem Ho (t : Tre) : jE t.flat 0 [] = decide (60 < t.deep) := by
 have := xI t.flat.length [t] 0 [] [] (by simp) (by simp)
 simp only [Tre.dj, Tre.rB, mB, Tre.mj, Tre.jc, ne_eq, reduceCtorEq, not_false_eq_true, cj, Bool.true_and, qm] at this
 rw [this]
 simp only [jE, Bool.or_false]
 rw [nq]; simp only [ej]; omega
theorem Hp (t : Tre) : lR t.flat = (decide (60 < t.deep) || decide (24 < t.kids.length)) := by
 unfold lR
 rw [Ho]
 have h := Ri (gU.whole t)
 have hs : mF t.flat = ((0 : Nat) : Int) + t.flat.length := by
  obtain ⟨x, r, h1, _, h3, _⟩ := t.tD
  rw [h1] at h3 ⊢
  simp only [mF]; omega
 rw [hs, h, mQ]
open Classical in
noncomputable def GR (l : List Nd) : Option Tre := if h : ∃ t : Tre, l = t.flat then some h.choose else none
theorem Qe (t : Tre) : GR t.flat = some t := by
 unfold GR
 have h : ∃ t' : Tre, t.flat = t'.flat := ⟨t, rfl⟩
 rw [dif_pos h]
 have := h.choose_spec
 rw [<- Tre.QJ this]
theorem Qf {l : List Nd} (h : ¬ ∃ t : Tre, l = t.flat) : GR l = none := by unfold GR; rw [dif_neg h]
def vM (t : Tre) : Int := if t.kind ≠ 1 \/ t.ok = false then 4 else if 60 < t.deep \/ 24 < t.kids.length then 5 else 0
noncomputable def pU (l : List Nd) : Int := if 900 < l.length then 5 else match GR l with | none => 4 | some t => vM t
theorem Dj (t : Tre) (h : ¬ 900 < t.flat.length) : pU t.flat = vM t := by unfold pU; rw [if_neg h, Qe]
end Go.Rip
namespace Go.Rip
def o9 (l : List Nd) (e : Nat) : Nat -> Nat -> Nat
 | 0, p => p
 | f + 1, p => if p < e then o9 l e f (p + ((l[p]?.map Nd.size).getD 0).toNat) else p
def K3 (l : List Nd) : Prop := l ≠ [] /\ mF l = l.length /\ ∀ (i : Nat) (x : Nd), l[i]? = some x -> 1 <= x.size /\ x.size <= (l.length : Int) - i
def yV (l : List Nd) : Prop := K3 l /\ ∀ (i : Nat) (x : Nd), l[i]? = some x -> o9 l (i + x.size.toNat) l.length (i + 1) = i + x.size.toNat
theorem wR {l : List Nd} {e p : Nat} (h : ¬ p < e) : ∀ f, o9 l e f p = p
 | 0 => rfl
 | f + 1 => by rw [o9, if_neg h]
theorem wQ {l : List Nd} {e p f : Nat} {x : Nd} (hx : l[p]? = some x) (h : p < e) : o9 l e (f + 1) p = o9 l e f (p + x.size.toNat) := by
 rw [o9, if_pos h, hx]; rfl
theorem Ci {l : List Nd} : ∀ (ts : List Tre) (p f : Nat), lL l p ts -> ts.length <= f -> o9 l (p + (Tre.bV ts).length) f p = p + (Tre.bV ts).length
 | [], p, f, h, hf => by rw [Tre.rB, wR (by simp)]; rfl
 | t :: ts, p, 0, h, hf => by simp at hf
 | t :: ts, p, f + 1, h, hf => by
   obtain ⟨x, hx, _, hs, _⟩ := h.head.ru
   have hp := t.eh
   rw [wQ hx (by simp; omega)]
   have := Ci ts (p + t.flat.length) f h.tail (by simp at hf; omega)
   have e : p + x.size.toNat = p + t.flat.length := by omega
   have e2 : p + (Tre.bV (t :: ts)).length = p + t.flat.length + (Tre.bV ts).length := by simp; omega
   rw [e, e2, this]
theorem KI (t : Tre) : yV t.flat := by
 have sub : ∀ i x, t.flat[i]? = some x -> ∃ t', gU t.flat i t' := fun i x hx => by
  have hi := (dP.1 hx).1
  obtain ⟨t', h, _⟩ := zk (l := t.flat) t.flat.length [t] 0 (by simp) ⟨[], by simp⟩ i (by omega) (by simpa using hi)
  exact ⟨t', h⟩
 refine ⟨⟨?_, ?_, fun i x hx => ?_⟩, fun i x hx => ?_⟩
 · have := t.eh
   intro e; rw [e] at this; simp at this
 · obtain ⟨x, r, h1, _, h3, _⟩ := t.tD
   rw [h1] at h3 ⊢; exact h3
 · obtain ⟨t', h⟩ := sub i x hx
   obtain ⟨y, hy, _, hs, _⟩ := h.ru
   rw [hx] at hy; cases hy
   have := h.le
   have := t'.eh
   omega
 · obtain ⟨t', h⟩ := sub i x hx
   obtain ⟨y, hy, _, hs, _⟩ := h.ru
   rw [hx] at hy; cases hy
   have hl := nI t'
   have := Ci t'.kids (i + 1) t.flat.length h.kids (by
    have := h.le
    have := Tre.pB t'.kids
    omega)
   have e : i + x.size.toNat = i + 1 + (Tre.bV t'.kids).length := by omega
   rw [e]; exact this
theorem yE {l : List Nd} (hs : yV l) : ∀ (N i e f : Nat), e - i <= N -> i <= e -> e <= l.length -> e - i <= f -> o9 l e f i = e -> ∃ ts, l.drop i = Tre.bV ts ++ l.drop e /\ (Tre.bV ts).length = e - i
 | N, i, e, f, hN, hie, he, hf, hw => by
   by_cases h : i = e
   · subst h; exact ⟨[], by simp, by simp⟩
   · cases N with
     | zero => omega
     | succ N =>
     cases f with
     | zero => omega
     | succ f =>
     obtain ⟨x, hx⟩ : ∃ x, l[i]? = some x := ⟨l[i]'(by omega), by simp⟩
     have Tr := hs.1.2.2 i x hx
     rw [wQ hx (by omega)] at hw
     have hse : i + x.size.toNat <= e := by
      rcases eZ e (i + x.size.toNat) with h1 | h1
      · rw [wR (by omega)] at hw; omega
      · exact h1
     obtain ⟨ks, k1, k2⟩ := yE hs N (i + 1) (i + x.size.toNat) l.length (by omega) (by omega) (by omega) (by omega) (hs.2 i x hx)
     obtain ⟨ts, t1, t2⟩ := yE hs N (i + x.size.toNat) e f (by omega) hse he (by omega) hw
     have Bz : (Tre.mk x.kind x.text x.n x.m x.at_ ks).flat = x :: Tre.bV ks := by
      rw [Tre.fG]
      have : ((Tre.bV ks).length : Int) + 1 = x.size := by omega
      rw [this]
     refine ⟨.mk x.kind x.text x.n x.m x.at_ ks :: ts, ?_, ?_⟩
     · have hd : l.drop i = x :: l.drop (i + 1) := by
        rw [gX (by omega)]
        have := (dP.1 hx).2
        rw [this]
       rw [hd, k1, t1, Tre.dj, Bz]
       simp
     · rw [Tre.dj, Bz]; simp; omega
theorem Ed (l : List Nd) : yV l ↔ ∃ t : Tre, l = t.flat := by
 refine ⟨fun h => ?_, fun ⟨t, ht⟩ => ht ▸ KI t⟩
 cases l with
 | nil => exact absurd rfl h.1.1
 | cons x r =>
   have fi : x.size = (r.length : Int) + 1 := by have := h.1.2.1; simpa [mF] using this
   have hw := h.2 0 x rfl
   obtain ⟨ks, k1, k2⟩ := yE h r.length 1 (r.length + 1) (r.length + 1) (by omega) (by omega) (by simp) (by omega) (by
    have e : 0 + x.size.toNat = r.length + 1 := by omega
    rw [e] at hw; exact hw)
   refine ⟨.mk x.kind x.text x.n x.m x.at_ ks, ?_⟩
   rw [Tre.fG]
   have hr : r = Tre.bV ks := by
    have : (x :: r).drop 1 = r := rfl
    rw [this, List.drop_of_length_le (by simp), mB] at k1
    exact k1
   rw [<- hr, <- fi]
theorem AK {p : Int -> Bool} : ∀ {l : List Int}, (∀ x ∈ l, p x = true) -> l.takeWhile p = l
 | [], _ => rfl
 | a :: l, h => by rw [pn, if_pos (h a (by simp)), AK fun x hx => h x (by simp [hx])]
theorem GV {p : Int -> Bool} : ∀ {l : List Int}, l.takeWhile p = l -> ∀ x ∈ l, p x = true
 | [], _ => by simp
 | a :: l, h => by
   rw [pn] at h
   split at h
   · rename_i ha
     intro x hx
     rcases fC.1 hx with rfl | hx
     · exact ha
     · exact GV (List.cons.inj h).2 x hx
   · cases h
theorem UI (c : kH) (lo hi : Nat) (ks : List Int) : dK ks [⟨c, lo, hi⟩] = (decide (lo <= ks.length /\ ks.length <= hi) && ks.all c.is) := by
 rw [dK]
 simp only [jk, List.sum_nil, Nat.sub_zero, dK]
 have hle : ((ks.take (min ks.length hi)).takeWhile c.is).length <= min ks.length hi := by
  have := (rT c.is (l := ks.take (min ks.length hi))).length_le
  rw [List.length_take] at this; omega
 rw [nq]
 constructor
 · intro h
   split at h
   · cases h
   · rename_i h1
     have h2 : ks.length <= ((ks.take (min ks.length hi)).takeWhile c.is).length := by
      have : (ks.drop ((ks.take (min ks.length hi)).takeWhile c.is).length).length = 0 := by
       rw [List.isEmpty_iff.1 h]; rfl
      rw [List.length_drop] at this; omega
     have h2' := Nat.le_trans h2 hle
     have h3 : ks.take (min ks.length hi) = ks := uD (by omega)
     rw [h3] at h1 h2
     have h4 : ks.takeWhile c.is = ks := (rT c.is).eq_of_length_le h2
     have h5 := GV h4
     rw [h4] at h1
     simp only [cF, ej, eY]
     exact ⟨⟨by omega, by omega⟩, h5⟩
 · intro h
   simp only [cF, ej, eY] at h
   obtain ⟨⟨h1, h2⟩, h3⟩ := h
   have e1 : ks.take (min ks.length hi) = ks := uD (by omega)
   have e2 : ks.takeWhile c.is = ks := AK h3
   rw [e1, e2, if_neg (by omega)]
   simp
theorem o4 : ∀ (cs : List kH) (ks : List Int), dK ks (cs.map fun c => ⟨c, 1, 1⟩) = true -> ks.length = cs.length
 | [], ks, h => by simp only [jk, dK, List.isEmpty_iff] at h; simp [h]
 | c :: cs, ks, h => by
   rw [et, dK] at h
   simp only at h
   split at h
   · cases h
   · rename_i h1
     have h7 := o4 cs _ h
     have hle : ∀ n, ((ks.take (min n 1)).takeWhile c.is).length <= 1 /\ ((ks.take (min n 1)).takeWhile c.is).length <= ks.length := fun n => by
      have := (rT c.is (l := ks.take (min n 1))).length_le
      rw [List.length_take] at this; omega
     have h8 := hle (ks.length - ((cs.map fun c => (⟨c, 1, 1⟩ : uO)).map (·.least)).sum)
     rw [List.length_drop] at h7
     have key : ∀ q a b : Nat, ¬ q < 1 -> a - q = b -> q <= 1 /\ q <= a -> a = b + 1 := by omega
     rw [lk]
     exact key _ _ _ h1 h7 h8
theorem GQ (cs : List kH) : ((cs.map fun c => (⟨c, 1, 1⟩ : uO)).map (·.least)).sum = cs.length := by
 induction cs with
 | nil => rfl
 | cons c cs ih => simp only [et, List.sum_cons, lk, ih]; omega
theorem j9 (c : kH) (cs : List kH) (k : Int) (ks : List Int) (h : ks.length = cs.length) : dK (k :: ks) (⟨c, 1, 1⟩ :: cs.map fun c => ⟨c, 1, 1⟩) = (c.is k && dK ks (cs.map fun c => ⟨c, 1, 1⟩)) := by
 rw [dK]
 simp only [GQ]
 have : min ((k :: ks).length - cs.length) 1 = 1 := by simp; omega
 rw [this]
 simp only [List.take_succ_cons, List.take_zero, pn, List.takeWhile_nil]
 cases c.is k <;> simp
theorem zz (s : uO) (cs : List kH) (ks : List Int) (hm : ks.length <= s.CS + cs.length) : dK ks (s :: cs.map fun c => ⟨c, 1, 1⟩) = (decide (s.least + cs.length <= ks.length) && ((ks.take (ks.length - cs.length)).all s.c.is && dK (ks.drop (ks.length - cs.length)) (cs.map fun c => ⟨c, 1, 1⟩))) := by
 rw [dK]
 simp only [GQ]
 have e0 : min (ks.length - cs.length) s.CS = ks.length - cs.length := by omega
 rw [e0]
 have hle : ((ks.take (ks.length - cs.length)).takeWhile s.c.is).length <= ks.length - cs.length := by
  have := (rT s.c.is (l := ks.take (ks.length - cs.length))).length_le
  rw [List.length_take] at this; omega
 by_cases cq : ∀ x ∈ ks.take (ks.length - cs.length), s.c.is x = true
 · have e2 : (ks.take (ks.length - cs.length)).takeWhile s.c.is = ks.take (ks.length - cs.length) := AK cq
   have e3 : (ks.take (ks.length - cs.length)).all s.c.is = true := eY.2 cq
   rw [e2, e3, List.length_take, Nat.min_eq_left (by omega)]
   by_cases h : s.least + cs.length <= ks.length
   · rw [if_neg (by omega)]; simp [h]
   · rw [decide_eq_false h, Bool.false_and]
     by_cases h2 : ks.length - cs.length < s.least
     · rw [if_pos h2]
     · rw [if_neg h2]
       have : s.least = 0 := by omega
       cases hf : dK (ks.drop (ks.length - cs.length)) (cs.map fun c => ⟨c, 1, 1⟩) with
       | false => rfl
       | true =>
         have := o4 cs _ hf
         rw [List.length_drop] at this
         omega
 · have e3 : (ks.take (ks.length - cs.length)).all s.c.is = false := by
    cases h : (ks.take (ks.length - cs.length)).all s.c.is with
    | false => rfl
    | true => exact absurd (eY.1 h) cq
   rw [e3, Bool.false_and, Bool.and_false]
   have aL : ((ks.take (ks.length - cs.length)).takeWhile s.c.is).length < ks.length - cs.length := by
    refine Nat.lt_of_le_of_ne hle fun e => cq ?_
    have : (ks.take (ks.length - cs.length)).takeWhile s.c.is = ks.take (ks.length - cs.length) := (rT _).eq_of_length_le (by rw [List.length_take]; omega)
    exact GV this
   split
   · rfl
   · cases hf : dK (ks.drop ((ks.take (ks.length - cs.length)).takeWhile s.c.is).length) (cs.map fun c => ⟨c, 1, 1⟩) with
     | false => rfl
     | true =>
       have := o4 cs _ hf
       rw [List.length_drop] at this
       omega
end Go.Rip
namespace Go.Rip
mutual
def nF : Nat -> Tre -> List Nat
 | d, .mk _ _ _ _ _ ks => d :: ml (d + 1) ks
def ml : Nat -> List Tre -> List Nat
 | _, [] => []
 | d, t :: ts => nF d t ++ ml d ts
end
@[simp] theorem Lj {d : Nat} : ml d [] = [] := by rw [ml]
@[simp] theorem vN {d : Nat} {t : Tre} {ts : List Tre} : ml d (t :: ts) = nF d t ++ ml d ts := by rw [ml]
theorem uT {d : Nat} {k : Int} {t : aZ} {n m a : Int} {ks : List Tre} : nF d (.mk k t n m a ks) = d :: ml (d + 1) ks := by rw [nF]
theorem sM : ∀ (N : Nat) (ts : List Tre) (d : Nat), (Tre.bV ts).length <= N -> (ml d ts).length = (Tre.bV ts).length
 | _, [], _, _ => by simp
 | 0, t :: ts, _, h => by have := t.eh; simp only [Tre.dj, eQ] at h; omega
 | N + 1, .mk k t n m a ks :: ts, d, h => by
   simp only [Tre.dj, Tre.fG, eQ, lk] at h
   have h1 := sM N ks (d + 1) (by omega)
   have h2 := sM N ts d (by omega)
   simp only [vN, uT, Tre.dj, Tre.fG, eQ, lk, h1, h2]
theorem uk (d : Nat) (t : Tre) : (nF d t).length = t.flat.length := by
 have := sM _ [t] d (cG _)
 simpa using this
theorem CC : ∀ (N : Nat) (ts : List Tre) (d c : Nat), (Tre.bV ts).length <= N -> ((∃ x ∈ ml d ts, c < x) ↔ ts ≠ [] /\ c < d + (Tre.lG ts - 1))
 | _, [], _, _, _ => by simp
 | 0, t :: ts, _, _, h => by have := t.eh; simp only [Tre.dj, eQ] at h; omega
 | N + 1, .mk k t n m a ks :: ts, d, c, h => by
   simp only [Tre.dj, Tre.fG, eQ, lk] at h
   have h1 := CC N ks (d + 1) c (by omega)
   have h2 := CC N ts d c (by omega)
   have e : (∃ x ∈ ml d (Tre.mk k t n m a ks :: ts), c < x) ↔ (c < d \/ (∃ x ∈ ml (d + 1) ks, c < x)) \/ ∃ x ∈ ml d ts, c < x := by
    simp only [vN, uT, nT, fC, gg]
    constructor
    · rintro ⟨x, rfl | hx | hx, hc⟩
      · exact .inl (.inl hc)
      · exact .inl (.inr ⟨x, hx, hc⟩)
      · exact .inr ⟨x, hx, hc⟩
    · rintro ((hc | ⟨x, hx, hc⟩) | ⟨x, hx, hc⟩)
      · exact ⟨d, .inl rfl, hc⟩
      · exact ⟨x, .inr (.inl hx), hc⟩
      · exact ⟨x, .inr (.inr hx), hc⟩
   rw [e, h1, h2]
   simp only [Tre.mj, Tre.HW, ne_eq, reduceCtorEq, not_false_eq_true, true_and]
   have hd : ∀ l : List Tre, l = [] -> Tre.lG l = 0 := fun l e => by rw [e, Tre.jc]
   have hp : ∀ l : List Tre, ¬ l = [] -> 0 < Tre.lG l := fun l e => by
    cases l with
    | nil => exact absurd rfl e
    | cons t l => rw [Tre.mj]; omega
   by_cases hk : ks = []
   · have := hd ks hk
     by_cases ht : ts = []
     · have := hd ts ht
       simp only [hk, ht, not_true, false_and, or_false, Tre.jc]; omega
     · have := hp ts ht
       simp only [hk, ht, not_true, false_and, or_false, not_false_eq_true, true_and, Tre.jc]; omega
   · have := hp ks hk
     by_cases ht : ts = []
     · simp only [hk, ht, not_true, false_and, or_false, not_false_eq_true, true_and, Tre.jc]; omega
     · have := hp ts ht
       simp only [hk, ht, not_false_eq_true, true_and]; omega
theorem Fe (t : Tre) : (∃ x ∈ nF 0 t, 60 < x) ↔ 60 < t.deep := by
 have := CC _ [t] 0 60 (cG _)
 simp only [vN, Lj, mB, ne_eq, reduceCtorEq, not_false_eq_true, true_and, Tre.mj, Tre.jc] at this
 rw [this]; omega
def qD (D : List Nat) (p d : Nat) (ts : List Tre) : Prop := ∃ r, D.drop p = ml d ts ++ r
section
variable {l : List Nd} {D : List Nat} {p d : Nat} {t : Tre} {ts : List Tre}
theorem qD.ru (h : qD D p d (t :: ts)) : D[p]? = some d := by
 obtain ⟨r, h⟩ := h
 have : (D.drop p)[0]? = some d := by
  rw [h]
  cases t
  simp [uT]
 simpa using this
theorem qD.tail (h : qD D p d (t :: ts)) : qD D (p + t.flat.length) d ts := by
 obtain ⟨r, h⟩ := h
 refine ⟨r, ?_⟩
 rw [<- List.drop_drop, h, <- uk d t]
 simp
theorem qD.kids (h : qD D p d (t :: ts)) : qD D (p + 1) (d + 1) t.kids := by
 obtain ⟨r, h⟩ := h
 cases t with
 | mk k tx n m a ks =>
 refine ⟨ml d ts ++ r, ?_⟩
 rw [<- List.drop_drop, h]
 simp [uT, Tre.kids]
theorem qD.cX : ∀ {ts : List Tre} {p : Nat}, qD D p d ts -> ∀ i ∈ cX p ts, D[i]? = some d
 | [], p, h, i, hi => by simp [Rip.cX] at hi
 | t :: ts, p, h, i, hi => by
   simp only [Rip.cX, fC] at hi
   rcases hi with rfl | hi
   · exact h.ru
   · exact h.tail.cX i hi
theorem yk : ∀ (N : Nat) (ts : List Tre) (p d : Nat), (Tre.bV ts).length <= N -> lL l p ts -> qD D p d ts -> ∀ i, p <= i -> i < p + (Tre.bV ts).length ->
 (∃ s e, gU l i s /\ D[i]? = some e /\ qD D (i + 1) (e + 1) s.kids /\ e + p <= d + i) /\ (i ∈ cX p ts \/ ∃ i' s', p <= i' /\ i' < i /\ gU l i' s' /\ i ∈ cX (i' + 1) s'.kids)
 | N, [], p, d, hN, h, hd, i, h1, h2 => by simp at h2; omega
 | 0, t :: ts, p, d, hN, h, hd, i, h1, h2 => by have := t.eh; simp only [Tre.dj, eQ] at hN; omega
 | N + 1, t :: ts, p, d, hN, h, hd, i, h1, h2 => by
   have pX := nI t
   simp only [Tre.dj, eQ] at hN h2
   by_cases he : i = p
   · subst he
     exact ⟨⟨t, d, h.head, hd.ru, hd.kids, cG _⟩, .inl (by simp [cX])⟩
   · by_cases hi : i < p + t.flat.length
     · obtain ⟨⟨s, e, a1, a2, a3, a4⟩, b⟩ := yk N t.kids (p + 1) (d + 1) (by omega) h.head.kids hd.kids i (by omega) (by omega)
       refine ⟨⟨s, e, a1, a2, a3, by omega⟩, .inr ?_⟩
       rcases b with b | ⟨i', s', b1, b2, b3⟩
       · exact ⟨p, t, cG _, by omega, h.head, b⟩
       · exact ⟨i', s', by omega, b2, b3⟩
     · have := t.eh
       obtain ⟨⟨s, e, a1, a2, a3, a4⟩, b⟩ := yk N ts (p + t.flat.length) d (by omega) h.tail hd.tail i (by omega) (by omega)
       refine ⟨⟨s, e, a1, a2, a3, by omega⟩, ?_⟩
       rcases b with b | ⟨i', s', b1, b2, b3⟩
       · exact .inl (by simp [cX, b])
       · exact .inr ⟨i', s', by omega, b2, b3⟩
end
theorem place (t : Tre) {i : Nat} (hi : i < t.flat.length) : (∃ s e, gU t.flat i s /\ (nF 0 t)[i]? = some e /\ qD (nF 0 t) (i + 1) (e + 1) s.kids /\ e <= i) /\ (i = 0 \/ ∃ i' s', i' < i /\ gU t.flat i' s' /\ i ∈ cX (i' + 1) s'.kids) := by
 obtain ⟨⟨s, e, a1, a2, a3, a4⟩, b⟩ := yk (l := t.flat) (D := nF 0 t) t.flat.length [t] 0 0 (by simp) ⟨[], by simp⟩ ⟨[], by simp⟩ i (by omega) (by simpa using hi)
 refine ⟨⟨s, e, a1, a2, a3, by omega⟩, ?_⟩
 rcases b with b | ⟨i', s', b1, b2, b3⟩
 · simp only [cX, fC, List.not_mem_nil, or_false] at b
   exact .inl b
 · exact .inr ⟨i', s', b2, b3⟩
theorem gU.inj {l : List Nd} {i : Nat} {s s' : Tre} (h : gU l i s) (k : gU l i s') : s = s' := by
 obtain ⟨r, h1⟩ := h
 obtain ⟨r', h2⟩ := k
 obtain ⟨x, hx, _, hs, _⟩ := gU.ru ⟨r, h1⟩
 obtain ⟨x', jF, _, dT, _⟩ := gU.ru ⟨r', h2⟩
 rw [hx] at jF; cases jF
 have := Tre.tE s.flat.length [s] [s'] r r' (by simp) (by simpa using h1.symm.trans h2) (by simp; omega)
 simpa using this
end Go.Rip
