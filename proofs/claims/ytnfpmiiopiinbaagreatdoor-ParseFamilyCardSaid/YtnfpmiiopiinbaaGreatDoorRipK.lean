/- Lemmas for the proof: no conditions. -/
import Derived.Test.YtnfpmiiopiinbaaGreatDoorRipZz
import Derived.Test.YtnfpmiiopiinbaaGreatDoorRipI
set_option linter.unusedVariables false
set_option linter.unusedSimpArgs false
set_option linter.loopingSimpArgs false
namespace Go.Rip
inductive pX where
 | item | type | base | term | arg | kind (k : Int)
def fw (k : Int) : Bool := decide (9 <= k /\ k <= 34)
def jP (k : Int) : Bool := decide (k = 6 \/ k = 7)
def pT (k : Int) : Bool := decide (k = 6 \/ k = 7 \/ k = 8)
def oy (k : Int) : Bool := decide (2 <= k /\ k <= 4)
def jO (k : Int) : Bool := decide (9 <= k /\ k <= 36)
def pX.is : pX -> Int -> Bool
 | .item, k => oy k
 | .type, k => pT k
 | .base, k => jP k
 | .term, k => fw k
 | .arg, k => jO k
 | .kind c, k => decide (k = c)
structure l8 where
 c : pX
 least : Nat
 mq : Nat
structure Ca where
 text : Bool
 n : Bool
 m : Bool
 kids : List l8
def eC (k : Int) : Option Ca :=
 if k = 1 then some ⟨false, false, false, [⟨.item, 0, 900⟩]⟩
 else if k = 2 then some ⟨true, false, false, [⟨.type, 1, 1⟩]⟩
 else if k = 3 \/ k = 4 then some ⟨true, false, false, [⟨.kind 5, 0, 900⟩, ⟨.base, 1, 1⟩, ⟨.term, 1, 1⟩]⟩
 else if k = 5 then some ⟨true, false, false, [⟨.type, 1, 1⟩]⟩
 else if k = 6 \/ k = 7 then some ⟨false, true, false, []⟩
 else if k = 8 then some ⟨false, false, false, [⟨.base, 2, 900⟩]⟩
 else if k = 9 then some ⟨false, false, false, [⟨.term, 2, 900⟩]⟩
 else if k = 10 then some ⟨false, false, false, [⟨.term, 3, 3⟩]⟩
 else if k = 11 \/ k = 15 \/ k = 17 \/ k = 18 \/ 20 <= k /\ k <= 24 then some ⟨false, false, false, [⟨.term, 2, 2⟩]⟩
 else if k = 12 then some ⟨true, true, true, [⟨.term, 1, 1⟩]⟩
 else if k = 13 then some ⟨true, false, false, [⟨.term, 2, 2⟩]⟩
 else if k = 14 then some ⟨true, true, false, [⟨.term, 1, 1⟩]⟩
 else if k = 16 then some ⟨true, false, false, [⟨.term, 1, 1⟩]⟩
 else if k = 19 then some ⟨false, false, false, [⟨.term, 1, 1⟩]⟩
 else if k = 25 then some ⟨false, true, false, [⟨.term, 1, 1⟩]⟩
 else if k = 26 then some ⟨false, true, false, []⟩
 else if 27 <= k /\ k <= 30 then some ⟨false, false, false, []⟩
 else if k = 31 \/ k = 32 \/ k = 33 \/ k = 37 then some ⟨true, false, false, []⟩
 else if k = 34 then some ⟨true, false, false, [⟨.arg, 1, 900⟩]⟩
 else if k = 35 then some ⟨false, false, false, [⟨.kind 37, 1, 900⟩, ⟨.term, 1, 1⟩]⟩
 else if k = 36 then some ⟨false, false, false, [⟨.term, 1, 1⟩, ⟨.kind 37, 1, 1⟩, ⟨.term, 1, 1⟩]⟩
 else none
def dk : List Int -> List l8 -> Bool
 | ks, [] => ks.isEmpty
 | ks, s :: rest =>
   let many := ((ks.take (min (ks.length - (rest.map (·.least)).sum) s.mq)).takeWhile s.c.is).length
   if many < s.least then false else dk (ks.drop many) rest
def iB (s : bg) : Bool := decide (fD s = (0, 1, s))
def gN (n : Int) : Bool := decide (0 <= n /\ n <= 1000000)
def ly (x : Nd) (f : Ca) : Bool := (f.text == (x.text != [])) && (!f.text || iB x.text) && gN x.n && gN x.m && (f.n || x.n == 0) && (f.m || x.m == 0)
inductive Tre where
 | mk (kind : Int) (text : bg) (n m at_ : Int) (kids : List Tre)
namespace Tre
def kind : Tre -> Int | mk k _ _ _ _ _ => k
def text : Tre -> bg | mk _ t _ _ _ _ => t
def n : Tre -> Int | mk _ _ n _ _ _ => n
def m : Tre -> Int | mk _ _ _ m _ _ => m
def at_ : Tre -> Int | mk _ _ _ _ a _ => a
def kids : Tre -> List Tre | mk _ _ _ _ _ ks => ks
mutual
def flat : Tre -> List Nd
 | mk k t n m a ks => node k t n m a (bC ks)
def bC : List Tre -> List Nd
 | [] => []
 | t :: ts => flat t ++ bC ts
end
mutual
def ok : Tre -> Bool
 | mk k t n m a ks => (match eC k with
   | some f => ly ⟨k, t, n, m, a, 0⟩ f && dk (ks.map kind) f.kids
   | none => false) && xq ks
def xq : List Tre -> Bool
 | [] => true
 | t :: ts => ok t && xq ts
end
mutual
def deep : Tre -> Nat
 | mk _ _ _ _ _ ks => jF ks
def jF : List Tre -> Nat
 | [] => 0
 | t :: ts => max (deep t + 1) (jF ts)
end
end Tre
namespace Tre
end Tre
end Go.Rip
namespace Go.Rip
def ff (l : List Nd) (en : Int) : Nat -> Nat -> List Nat
 | 0, _ => []
 | f + 1, p => match l[p]? with
   | some x => if (p : Int) < en /\ 0 < x.size then p :: ff l en f (p + x.size.toNat) else []
   | none => []
def gX : List Nd -> Nat -> List Int -> Bool
 | [], _, _ => false
 | x :: r, n, es => if 60 < (es.filter ((n : Int) < ·)).length then true else gX r (n + 1) (es.filter ((n : Int) < ·) ++ [(n : Int) + x.size])
def jm (l : List Nd) : Int := match l with | x :: _ => x.size | [] => 0
def qe (l : List Nd) : Bool := gX l 0 [] || decide (24 < (ff l (jm l) l.length 1).length)
namespace Tre
theorem fL {k : Int} {t : bg} {n m a : Int} {ks : List Tre} : flat (mk k t n m a ks) = ⟨k, t, n, m, a, ((bC ks).length : Int) + 1⟩ :: bC ks := by rw [flat]; rfl
@[simp] theorem o3 : bC [] = [] := by rw [bC]
@[simp] theorem cY {t : Tre} {ts : List Tre} : bC (t :: ts) = flat t ++ bC ts := by rw [bC]
theorem qd : ∀ (l l' : List Tre), bC (l ++ l') = bC l ++ bC l'
 | [], l' => by simp
 | t :: l, l' => by simp [qd l l']
@[simp] theorem abm : xq [] = true := by rw [xq]
@[simp] theorem tL {t : Tre} {ts : List Tre} : xq (t :: ts) = (ok t && xq ts) := by rw [xq]
@[simp] theorem Ff {k : Int} {t : bg} {n m a : Int} {ks : List Tre} : deep (mk k t n m a ks) = jF ks := by rw [deep]
@[simp] theorem gE : jF [] = 0 := by rw [jF]
@[simp] theorem j0 {t : Tre} {ts : List Tre} : jF (t :: ts) = max (deep t + 1) (jF ts) := by rw [jF]
theorem dh : ∀ t : Tre, 0 < t.flat.length
 | mk k t n m a ks => by rw [fL]; simp
theorem o1 : ∀ ts : List Tre, ts.length <= (bC ts).length
 | [] => by simp
 | t :: ts => by
   have := o1 ts
   have := dh t
   simp; omega
theorem nz : ∀ t : Tre, ∃ x r, t.flat = x :: r /\ x.kind = t.kind /\ x.size = t.flat.length /\ x.text = t.text /\ x.n = t.n /\ x.m = t.m /\ x.at_ = t.at_ /\ r = bC t.kids
 | mk k t n m a ks => ⟨_, _, fL, rfl, by rw [fL]; simp, rfl, rfl, rfl, rfl, rfl⟩
theorem qS : ∀ (N : Nat) (ts xB : List Tre) (r r' : List Nd), (bC ts).length <= N -> bC ts ++ r = bC xB ++ r' -> (bC ts).length = (bC xB).length -> ts = xB
 | N, [], [], _, _, _, _, _ => rfl
 | N, [], t :: ts, _, _, _, _, h => by have := dh t; simp only [cY, o3, fU, oE] at h; omega
 | N, t :: ts, [], _, _, _, _, h => by have := dh t; simp only [cY, o3, fU, oE] at h; omega
 | 0, t :: ts, _, _, _, hN, _, _ => by have := dh t; simp only [cY, fU] at hN; omega
 | N + 1, mk k t n m a ks :: ts, mk k' t' n' m' a' ks' :: xB, r, r', hN, h, hl => by
   simp only [cY, fL, jb, qD, List.cons.injEq, Nd.mk.injEq, jy, fU] at h hl hN
   obtain ⟨⟨rfl, rfl, rfl, rfl, rfl, hs⟩, h⟩ := h
   have hs : (bC ks).length = (bC ks').length := by omega
   have e := qS N ks ks' (bC ts ++ r) (bC xB ++ r') (by omega) h hs
   subst e
   have h2 := List.append_cancel_left h
   have e := qS N ts xB r r' (by omega) h2 (by omega)
   rw [e]
theorem No {t t' : Tre} (h : t.flat = t'.flat) : t = t' := by
 have := qS (bC [t]).length [t] [t'] [] [] (de _) (by simp [h]) (by simp [h])
 simpa using this
end Tre
def bJ : Nat -> List Tre -> List Nat
 | _, [] => []
 | p, t :: ts => p :: bJ (p + t.flat.length) ts
theorem jd : ∀ (p : Nat) (ts : List Tre), (bJ p ts).length = ts.length
 | _, [] => rfl
 | p, t :: ts => by simp [bJ, jd]
def jr (l : List Nd) (p : Nat) (ts : List Tre) : Prop := ∃ r, l.drop p = Tre.bC ts ++ r
def eS (l : List Nd) (p : Nat) (t : Tre) : Prop := ∃ r, l.drop p = t.flat ++ r
section
variable {l : List Nd} {p : Nat} {t : Tre} {ts : List Tre}
theorem jr.head (h : jr l p (t :: ts)) : eS l p t := by
 obtain ⟨r, h⟩ := h
 exact ⟨Tre.bC ts ++ r, by rw [h]; simp⟩
theorem jr.tail (h : jr l p (t :: ts)) : jr l (p + t.flat.length) ts := by
 obtain ⟨r, h⟩ := h
 refine ⟨r, ?_⟩
 rw [<- List.drop_drop, h]
 simp
theorem jr.app {xB : List Tre} (h : jr l p (ts ++ xB)) : jr l p ts /\ jr l (p + (Tre.bC ts).length) xB := by
 obtain ⟨r, h⟩ := h
 refine ⟨⟨Tre.bC xB ++ r, by rw [h, Tre.qd]; simp⟩, ⟨r, ?_⟩⟩
 rw [<- List.drop_drop, h, Tre.qd]
 simp
theorem eS.kB (h : eS l p t) : ∃ x, l[p]? = some x /\ x.kind = t.kind /\ x.size = t.flat.length /\ x.text = t.text /\ x.n = t.n /\ x.m = t.m /\ x.at_ = t.at_ := by
 obtain ⟨r, h⟩ := h
 obtain ⟨x, r', h1, h2, h3, h4, h5, h6, h7, h8⟩ := t.nz
 refine ⟨x, ?_, h2, h3, h4, h5, h6, h7⟩
 rw [h1] at h
 have : (l.drop p)[0]? = some x := by rw [h]; rfl
 simpa using this
theorem eS.le (h : eS l p t) : p + t.flat.length <= l.length := by
 obtain ⟨r, h⟩ := h
 have h' := congrArg List.length h
 have := t.dh
 simp only [List.length_drop, fU] at h'; omega
theorem jr.le (h : jr l p ts) (hp : p <= l.length) : p + (Tre.bC ts).length <= l.length := by
 obtain ⟨r, h⟩ := h
 have := congrArg List.length h
 simp at this; omega
theorem eS.kids (h : eS l p t) : jr l (p + 1) t.kids := by
 obtain ⟨r, h⟩ := h
 obtain ⟨x, r', h1, h2, h3, h4, h5, h6, h7, h8⟩ := t.nz
 refine ⟨r, ?_⟩
 rw [<- List.drop_drop, h, h1, h8]
 rfl
theorem j9 (t : Tre) : t.flat.length = (Tre.bC t.kids).length + 1 := by
 cases t with
 | mk k t n m a ks => rw [Tre.fL]; rfl
theorem eS.whole (t : Tre) : eS t.flat 0 t := ⟨[], by simp⟩
theorem Bm : ∀ (ts : List Tre) (p f : Nat), jr l p ts -> ts.length <= f -> ff l ((p : Int) + (Tre.bC ts).length) f p = bJ p ts
 | [], p, 0, h, hf => rfl
 | [], p, f + 1, h, hf => by
   simp only [ff, bJ, Tre.o3, oE]
   split
   · rw [if_neg (by omega)]
   · rfl
 | t :: ts, p, 0, h, hf => by simp at hf
 | t :: ts, p, f + 1, h, hf => by
   obtain ⟨x, hx, _, hs, _⟩ := h.head.kB
   have hp := t.dh
   simp only [ff, bJ, hx]
   rw [if_pos (by simp; omega)]
   have := Bm ts (p + t.flat.length) f h.tail (by simp at hf; omega)
   have e : p + x.size.toNat = p + t.flat.length := by omega
   rw [e, <- this]
   congr 2
   simp; omega
theorem xR (h : eS l p t) : ff l ((p : Int) + t.flat.length) l.length (p + 1) = bJ (p + 1) t.kids := by
 have := Bm t.kids (p + 1) l.length h.kids (by
  have := h.le
  have := j9 t
  have := Tre.o1 t.kids
  omega)
 rw [<- this]
 have := j9 t
 congr 1
 omega
theorem wF : ∀ (N : Nat) (ts : List Tre) (p : Nat), (Tre.bC ts).length <= N -> jr l p ts -> ∀ i, p <= i -> i < p + (Tre.bC ts).length -> ∃ t, eS l i t /\ (Tre.xq ts = true -> t.ok = true)
 | N, [], p, hN, h, i, h1, h2 => by simp at h2; omega
 | 0, t :: ts, p, hN, h, i, h1, h2 => by have := t.dh; simp only [Tre.cY, fU] at hN; omega
 | N + 1, .mk k tx n m a ks :: ts, p, hN, h, i, h1, h2 => by
   simp only [Tre.cY, Tre.fL, fU, jy] at hN h2
   by_cases he : i = p
   · subst he
     refine ⟨_, h.head, fun ho => ?_⟩
     rw [Tre.tL, bP] at ho
     exact ho.1
   · by_cases hi : i < p + ((Tre.bC ks).length + 1)
     · obtain ⟨t, ht, ho⟩ := wF N ks (p + 1) (by omega) h.head.kids i (by omega) (by omega)
       refine ⟨t, ht, fun hk => ho ?_⟩
       rw [Tre.tL, Tre.ok] at hk
       simp only [bP] at hk
       exact hk.1.2
     · obtain ⟨t, ht, ho⟩ := wF N ts (p + (Tre.flat (.mk k tx n m a ks)).length) (by omega) h.tail i (by rw [Tre.fL]; simp; omega) (by rw [Tre.fL]; simp; omega)
       refine ⟨t, ht, fun hk => ho ?_⟩
       rw [Tre.tL, bP] at hk
       exact hk.2
end
theorem uw (l : List Nd) (n : Nat) (es : List Int) : gX l n (es.filter ((n : Int) < ·)) = gX l n es := by
 cases l with
 | nil => rfl
 | cons x r => simp only [gX, List.filter_filter, Bool.and_self]
theorem u7 : ∀ (N : Nat) (ts : List Tre) (n : Nat) (es : List Int) (r : List Nd), (Tre.bC ts).length <= N -> (∀ e ∈ es, (n : Int) + (Tre.bC ts).length <= e) ->
 gX (Tre.bC ts ++ r) n es = ((decide (ts ≠ []) && decide (60 < es.length + (Tre.jF ts - 1))) || gX r (n + (Tre.bC ts).length) es)
 | N, [], n, es, r, hN, vg => by simp
 | 0, t :: ts, n, es, r, hN, vg => by have := t.dh; simp only [Tre.cY, fU] at hN; omega
 | N + 1, .mk k tx a b c ks :: ts, n, es, r, hN, vg => by
   simp only [Tre.cY, Tre.fL, fU, jy] at hN vg
   have hfe : es.filter ((n : Int) < ·) = es := by
    rw [List.filter_eq_self]
    intro e he
    have := vg e he
    simp only [cL]
    omega
   simp only [Tre.cY, Tre.fL, jb, qD, gX, hfe, Tre.j0, Tre.Ff]
   by_cases uB : 60 < es.length
   · rw [if_pos uB]
     simp; omega
   · rw [if_neg uB]
     have h1 := u7 N ks (n + 1) (es ++ [(n : Int) + (((Tre.bC ks).length : Int) + 1)]) (Tre.bC ts ++ r) (by omega) (fun e he => by
      simp only [fH, ng] at he
      rcases he with he | rfl
      · have := vg e he; omega
      · omega)
     rw [h1]
     have h2 : gX (Tre.bC ts ++ r) (n + 1 + (Tre.bC ks).length) (es ++ [(n : Int) + (((Tre.bC ks).length : Int) + 1)]) = gX (Tre.bC ts ++ r) (n + 1 + (Tre.bC ks).length) es := by
      rw [<- uw, <- uw (es := es)]
      congr 1
      rw [List.filter_append]
      have : List.filter (fun x => decide (((n + 1 + (Tre.bC ks).length : Nat) : Int) < x)) [(n : Int) + (((Tre.bC ks).length : Int) + 1)] = [] := by
       rw [List.filter_cons_of_neg, List.filter_nil]
       simp only [cL]; omega
      rw [this, ja]
     rw [h2]
     have h3 := u7 N ts (n + 1 + (Tre.bC ks).length) es r (by omega) (fun e he => by have := vg e he; omega)
     rw [h3]
     have e1 : n + 1 + (Tre.bC ks).length + (Tre.bC ts).length = n + ((Tre.flat (.mk k tx a b c ks)).length + (Tre.bC ts).length) := by rw [Tre.fL]; simp; omega
     have e2 : n + ((Tre.bC ks).length + 1 + (Tre.bC ts).length) = n + 1 + (Tre.bC ks).length + (Tre.bC ts).length := by omega
     simp only [fU, jy, oE, e2, Tre.fL]
     rw [<- Bool.or_assoc]
     congr 1
     rw [lE]
     have hd : ks = [] -> Tre.jF ks = 0 := fun e => by rw [e, Tre.gE]
     have pv : ts = [] -> Tre.jF ts = 0 := fun e => by rw [e, Tre.gE]
     have hdp : ks ≠ [] -> 0 < Tre.jF ks := fun e => by
      cases ks with
      | nil => exact absurd rfl e
      | cons t ks => rw [Tre.j0]; omega
     have Uz : ts ≠ [] -> 0 < Tre.jF ts := fun e => by
      cases ts with
      | nil => exact absurd rfl e
      | cons t ks => rw [Tre.j0]; omega
     simp only [iZ, bP, cL, ne_eq, reduceCtorEq, not_false_eq_true, true_and]
     by_cases hk : ks = []
     · have := hd hk
       by_cases ht : ts = []
       · have := pv ht
         rw [ht] at this
         simp only [hk, ht, not_true, false_and, or_false, false_iff, Tre.gE]; omega
       · have := Uz ht
         simp only [hk, ht, not_true, false_and, false_or, not_false_eq_true, true_and, Tre.gE]; omega
     · have := hdp hk
       by_cases ht : ts = []
       · simp only [hk, ht, not_true, false_and, or_false, not_false_eq_true, true_and, Tre.gE]; omega
       · have := Uz ht
         simp only [hk, ht, not_false_eq_true, true_and]; omega
     congr 1; omega
theorem EB (t : Tre) : gX t.flat 0 [] = decide (60 < t.deep) := by
 have := u7 t.flat.length [t] 0 [] [] (by simp) (by simp)
 simp only [Tre.cY, Tre.o3, ja, Tre.j0, Tre.gE, ne_eq, reduceCtorEq, not_false_eq_true, bM, Bool.true_and, oE] at this
 rw [this]
 simp only [gX, Bool.or_false]
 rw [lE]; simp only [cL]; omega
theorem EC (t : Tre) : qe t.flat = (decide (60 < t.deep) || decide (24 < t.kids.length)) := by
 unfold qe
 rw [EB]
 have h := xR (eS.whole t)
 have hs : jm t.flat = ((0 : Nat) : Int) + t.flat.length := by
  obtain ⟨x, r, h1, _, h3, _⟩ := t.nz
  rw [h1] at h3 ⊢
  simp only [jm]; omega
 rw [hs, h, jd]
open Classical in
noncomputable def vV (l : List Nd) : Option Tre := if h : ∃ t : Tre, l = t.flat then some h.choose else none
theorem MC (t : Tre) : vV t.flat = some t := by
 unfold vV
 have h : ∃ t' : Tre, t.flat = t'.flat := ⟨t, rfl⟩
 rw [dif_pos h]
 have := h.choose_spec
 rw [<- Tre.No this]
theorem MD {l : List Nd} (h : ¬ ∃ t : Tre, l = t.flat) : vV l = none := by unfold vV; rw [dif_neg h]
theorem ME {l : List Nd} {t : Tre} (h : vV l = some t) : l = t.flat := by
 unfold vV at h
 split at h
 · rename_i h'
   have := h'.choose_spec
   cases h
   exact this
 · cases h
def p6 (t : Tre) : Int := if t.kind ≠ 1 \/ t.ok = false then 4 else if 60 < t.deep \/ 24 < t.kids.length then 5 else 0
noncomputable def gu (l : List Nd) : Int := if 900 < l.length then 5 else match vV l with | none => 4 | some t => p6 t
theorem AN (t : Tre) (h : ¬ 900 < t.flat.length) : gu t.flat = p6 t := by unfold gu; rw [if_neg h, MC]
end Go.Rip
namespace Go.Rip
def lZ (l : List Nd) (e : Nat) : Nat -> Nat -> Nat
 | 0, p => p
 | f + 1, p => if p < e then lZ l e f (p + ((l[p]?.map Nd.size).getD 0).toNat) else p
def eH (l : List Nd) (i : Nat) : Nat := ((l[i]?.map Nd.size).getD 0).toNat
def pZ (l : List Nd) : Prop := l ≠ [] /\ jm l = l.length /\ ∀ (i : Nat) (x : Nd), l[i]? = some x -> 1 <= x.size /\ x.size <= (l.length : Int) - i
def td (l : List Nd) : Prop := pZ l /\ ∀ (i : Nat) (x : Nd), l[i]? = some x -> lZ l (i + x.size.toNat) l.length (i + 1) = i + x.size.toNat
theorem pN {l : List Nd} {e p : Nat} (h : ¬ p < e) : ∀ f, lZ l e f p = p
 | 0 => rfl
 | f + 1 => by rw [lZ, if_neg h]
theorem pM {l : List Nd} {e p f : Nat} {x : Nd} (hx : l[p]? = some x) (h : p < e) : lZ l e (f + 1) p = lZ l e f (p + x.size.toNat) := by
 rw [lZ, if_pos h, hx]; rfl
theorem zK {l : List Nd} : ∀ (ts : List Tre) (p f : Nat), jr l p ts -> ts.length <= f -> lZ l (p + (Tre.bC ts).length) f p = p + (Tre.bC ts).length
 | [], p, f, h, hf => by rw [Tre.o3, pN (by simp)]; rfl
 | t :: ts, p, 0, h, hf => by simp at hf
 | t :: ts, p, f + 1, h, hf => by
   obtain ⟨x, hx, _, hs, _⟩ := h.head.kB
   have hp := t.dh
   rw [pM hx (by simp; omega)]
   have := zK ts (p + t.flat.length) f h.tail (by simp at hf; omega)
   have e : p + x.size.toNat = p + t.flat.length := by omega
   have e2 : p + (Tre.bC (t :: ts)).length = p + t.flat.length + (Tre.bC ts).length := by simp; omega
   rw [e, e2, this]
theorem Hv (t : Tre) : td t.flat := by
 have sub : ∀ i x, t.flat[i]? = some x -> ∃ t', eS t.flat i t' := fun i x hx => by
  have hi := (dy.1 hx).1
  obtain ⟨t', h, _⟩ := wF (l := t.flat) t.flat.length [t] 0 (by simp) ⟨[], by simp⟩ i (by omega) (by simpa using hi)
  exact ⟨t', h⟩
 refine ⟨⟨?_, ?_, fun i x hx => ?_⟩, fun i x hx => ?_⟩
 · have := t.dh
   intro e; rw [e] at this; simp at this
 · obtain ⟨x, r, h1, _, h3, _⟩ := t.nz
   rw [h1] at h3 ⊢; exact h3
 · obtain ⟨t', h⟩ := sub i x hx
   obtain ⟨y, hy, _, hs, _⟩ := h.kB
   rw [hx] at hy; cases hy
   have := h.le
   have := t'.dh
   omega
 · obtain ⟨t', h⟩ := sub i x hx
   obtain ⟨y, hy, _, hs, _⟩ := h.kB
   rw [hx] at hy; cases hy
   have hl := j9 t'
   have := zK t'.kids (i + 1) t.flat.length h.kids (by
    have := h.le
    have := Tre.o1 t'.kids
    omega)
   have e : i + x.size.toNat = i + 1 + (Tre.bC t'.kids).length := by omega
   rw [e]; exact this
theorem vS {l : List Nd} (hs : td l) : ∀ (N i e f : Nat), e - i <= N -> i <= e -> e <= l.length -> e - i <= f -> lZ l e f i = e -> ∃ ts, l.drop i = Tre.bC ts ++ l.drop e /\ (Tre.bC ts).length = e - i
 | N, i, e, f, hN, Y3, he, hf, hw => by
   by_cases h : i = e
   · subst h; exact ⟨[], by simp, by simp⟩
   · cases N with
     | zero => omega
     | succ N =>
     cases f with
     | zero => omega
     | succ f =>
     obtain ⟨x, hx⟩ : ∃ x, l[i]? = some x := ⟨l[i]'(by omega), by simp⟩
     have xf := hs.1.2.2 i x hx
     rw [pM hx (by omega)] at hw
     have hse : i + x.size.toNat <= e := by
      rcases eG e (i + x.size.toNat) with h1 | h1
      · rw [pN (by omega)] at hw; omega
      · exact h1
     obtain ⟨ks, k1, k2⟩ := vS hs N (i + 1) (i + x.size.toNat) l.length (by omega) (by omega) (by omega) (by omega) (hs.2 i x hx)
     obtain ⟨ts, t1, t2⟩ := vS hs N (i + x.size.toNat) e f (by omega) hse he (by omega) hw
     have yV : (Tre.mk x.kind x.text x.n x.m x.at_ ks).flat = x :: Tre.bC ks := by
      rw [Tre.fL]
      have : ((Tre.bC ks).length : Int) + 1 = x.size := by omega
      rw [this]
     refine ⟨.mk x.kind x.text x.n x.m x.at_ ks :: ts, ?_, ?_⟩
     · have hd : l.drop i = x :: l.drop (i + 1) := by
        rw [gp (by omega)]
        have := (dy.1 hx).2
        rw [this]
       rw [hd, k1, t1, Tre.cY, yV]
       simp
     · rw [Tre.cY, yV]; simp; omega
theorem ry (l : List Nd) : td l ↔ ∃ t : Tre, l = t.flat := by
 refine ⟨fun h => ?_, fun ⟨t, ht⟩ => ht ▸ Hv t⟩
 cases l with
 | nil => exact absurd rfl h.1.1
 | cons x r =>
   have dE : x.size = (r.length : Int) + 1 := by have := h.1.2.1; simpa [jm] using this
   have hw := h.2 0 x rfl
   obtain ⟨ks, k1, k2⟩ := vS h r.length 1 (r.length + 1) (r.length + 1) (by omega) (by omega) (by simp) (by omega) (by
    have e : 0 + x.size.toNat = r.length + 1 := by omega
    rw [e] at hw; exact hw)
   refine ⟨.mk x.kind x.text x.n x.m x.at_ ks, ?_⟩
   rw [Tre.fL]
   have hr : r = Tre.bC ks := by
    have : (x :: r).drop 1 = r := rfl
    rw [this, List.drop_of_length_le (by simp), ja] at k1
    exact k1
   rw [<- hr, <- dE]
theorem yg {p : Int -> Bool} : ∀ {l : List Int}, (∀ x ∈ l, p x = true) -> l.takeWhile p = l
 | [], _ => rfl
 | a :: l, h => by rw [nh, if_pos (h a (by simp)), yg fun x hx => h x (by simp [hx])]
theorem D5 {p : Int -> Bool} : ∀ {l : List Int}, l.takeWhile p = l -> ∀ x ∈ l, p x = true
 | [], _ => by simp
 | a :: l, h => by
   rw [nh] at h
   split at h
   · rename_i ha
     intro x hx
     rcases eA.1 hx with rfl | hx
     · exact ha
     · exact D5 (List.cons.inj h).2 x hx
   · cases h
theorem Rs (c : pX) (lo hi : Nat) (ks : List Int) : dk ks [⟨c, lo, hi⟩] = (decide (lo <= ks.length /\ ks.length <= hi) && ks.all c.is) := by
 rw [dk]
 simp only [gJ, List.sum_nil, Nat.sub_zero, dk]
 have hle : ((ks.take (min ks.length hi)).takeWhile c.is).length <= min ks.length hi := by
  have := (qB c.is (l := ks.take (min ks.length hi))).length_le
  rw [List.length_take] at this; omega
 rw [lE]
 constructor
 · intro h
   split at h
   · cases h
   · rename_i h1
     have h2 : ks.length <= ((ks.take (min ks.length hi)).takeWhile c.is).length := by
      have : (ks.drop ((ks.take (min ks.length hi)).takeWhile c.is).length).length = 0 := by
       rw [List.isEmpty_iff.1 h]; rfl
      rw [List.length_drop] at this; omega
     have YM := Nat.le_trans h2 hle
     have h3 : ks.take (min ks.length hi) = ks := qC (by omega)
     rw [h3] at h1 h2
     have h4 : ks.takeWhile c.is = ks := (qB c.is).eq_of_length_le h2
     have h5 := D5 h4
     rw [h4] at h1
     simp only [bP, cL, dP]
     exact ⟨⟨by omega, by omega⟩, h5⟩
 · intro h
   simp only [bP, cL, dP] at h
   obtain ⟨⟨h1, h2⟩, h3⟩ := h
   have e1 : ks.take (min ks.length hi) = ks := qC (by omega)
   have e2 : ks.takeWhile c.is = ks := yg h3
   rw [e1, e2, if_neg (by omega)]
   simp
theorem mR : ∀ (cs : List pX) (ks : List Int), dk ks (cs.map fun c => ⟨c, 1, 1⟩) = true -> ks.length = cs.length
 | [], ks, h => by simp only [gJ, dk, List.isEmpty_iff] at h; simp [h]
 | c :: cs, ks, h => by
   rw [dx, dk] at h
   simp only at h
   split at h
   · cases h
   · rename_i h1
     have h7 := mR cs _ h
     have hle : ∀ n, ((ks.take (min n 1)).takeWhile c.is).length <= 1 /\ ((ks.take (min n 1)).takeWhile c.is).length <= ks.length := fun n => by
      have := (qB c.is (l := ks.take (min n 1))).length_le
      rw [List.length_take] at this; omega
     have h8 := hle (ks.length - ((cs.map fun c => (⟨c, 1, 1⟩ : l8)).map (·.least)).sum)
     rw [List.length_drop] at h7
     have key : ∀ q a b : Nat, ¬ q < 1 -> a - q = b -> q <= 1 /\ q <= a -> a = b + 1 := by omega
     rw [jy]
     exact key _ _ _ h1 h7 h8
theorem D1 (cs : List pX) : ((cs.map fun c => (⟨c, 1, 1⟩ : l8)).map (·.least)).sum = cs.length := by
 induction cs with
 | nil => rfl
 | cons c cs ih => simp only [dx, List.sum_cons, jy, ih]; omega
theorem iq (c : pX) (cs : List pX) (k : Int) (ks : List Int) (h : ks.length = cs.length) : dk (k :: ks) (⟨c, 1, 1⟩ :: cs.map fun c => ⟨c, 1, 1⟩) = (c.is k && dk ks (cs.map fun c => ⟨c, 1, 1⟩)) := by
 rw [dk]
 simp only [D1]
 have : min ((k :: ks).length - cs.length) 1 = 1 := by simp; omega
 rw [this]
 simp only [List.take_succ_cons, List.take_zero, nh, List.takeWhile_nil]
 cases c.is k <;> simp
theorem wU (s : l8) (cs : List pX) (ks : List Int) (hm : ks.length <= s.mq + cs.length) : dk ks (s :: cs.map fun c => ⟨c, 1, 1⟩) = (decide (s.least + cs.length <= ks.length) && ((ks.take (ks.length - cs.length)).all s.c.is && dk (ks.drop (ks.length - cs.length)) (cs.map fun c => ⟨c, 1, 1⟩))) := by
 rw [dk]
 simp only [D1]
 have e0 : min (ks.length - cs.length) s.mq = ks.length - cs.length := by omega
 rw [e0]
 have hle : ((ks.take (ks.length - cs.length)).takeWhile s.c.is).length <= ks.length - cs.length := by
  have := (qB s.c.is (l := ks.take (ks.length - cs.length))).length_le
  rw [List.length_take] at this; omega
 by_cases bq : ∀ x ∈ ks.take (ks.length - cs.length), s.c.is x = true
 · have e2 : (ks.take (ks.length - cs.length)).takeWhile s.c.is = ks.take (ks.length - cs.length) := yg bq
   have e3 : (ks.take (ks.length - cs.length)).all s.c.is = true := dP.2 bq
   rw [e2, e3, List.length_take, Nat.min_eq_left (by omega)]
   by_cases h : s.least + cs.length <= ks.length
   · rw [if_neg (by omega)]; simp [h]
   · rw [decide_eq_false h, Bool.false_and]
     by_cases h2 : ks.length - cs.length < s.least
     · rw [if_pos h2]
     · rw [if_neg h2]
       have : s.least = 0 := by omega
       cases hf : dk (ks.drop (ks.length - cs.length)) (cs.map fun c => ⟨c, 1, 1⟩) with
       | false => rfl
       | true =>
         have := mR cs _ hf
         rw [List.length_drop] at this
         omega
 · have e3 : (ks.take (ks.length - cs.length)).all s.c.is = false := by
    cases h : (ks.take (ks.length - cs.length)).all s.c.is with
    | false => rfl
    | true => exact absurd (dP.1 h) bq
   rw [e3, Bool.false_and, Bool.and_false]
   have aJ : ((ks.take (ks.length - cs.length)).takeWhile s.c.is).length < ks.length - cs.length := by
    refine Nat.lt_of_le_of_ne hle fun e => bq ?_
    have : (ks.take (ks.length - cs.length)).takeWhile s.c.is = ks.take (ks.length - cs.length) := (qB _).eq_of_length_le (by rw [List.length_take]; omega)
    exact D5 this
   split
   · rfl
   · cases hf : dk (ks.drop ((ks.take (ks.length - cs.length)).takeWhile s.c.is).length) (cs.map fun c => ⟨c, 1, 1⟩) with
     | false => rfl
     | true =>
       have := mR cs _ hf
       rw [List.length_drop] at this
       omega
end Go.Rip
namespace Go.Rip
mutual
def lu : Nat -> Tre -> List Nat
 | d, .mk _ _ _ _ _ ks => d :: j5 (d + 1) ks
def j5 : Nat -> List Tre -> List Nat
 | _, [] => []
 | d, t :: ts => lu d t ++ j5 d ts
end
@[simp] theorem H2 {d : Nat} : j5 d [] = [] := by rw [j5]
@[simp] theorem tk {d : Nat} {t : Tre} {ts : List Tre} : j5 d (t :: ts) = lu d t ++ j5 d ts := by rw [j5]
theorem so {d : Nat} {k : Int} {t : bg} {n m a : Int} {ks : List Tre} : lu d (.mk k t n m a ks) = d :: j5 (d + 1) ks := by rw [lu]
theorem p8 : ∀ (N : Nat) (ts : List Tre) (d : Nat), (Tre.bC ts).length <= N -> (j5 d ts).length = (Tre.bC ts).length
 | _, [], _, _ => by simp
 | 0, t :: ts, _, h => by have := t.dh; simp only [Tre.cY, fU] at h; omega
 | N + 1, .mk k t n m a ks :: ts, d, h => by
   simp only [Tre.cY, Tre.fL, fU, jy] at h
   have h1 := p8 N ks (d + 1) (by omega)
   have h2 := p8 N ts d (by omega)
   simp only [tk, so, Tre.cY, Tre.fL, fU, jy, h1, h2]
theorem rL (d : Nat) (t : Tre) : (lu d t).length = t.flat.length := by
 have := p8 _ [t] d (de _)
 simpa using this
theorem zY : ∀ (N : Nat) (ts : List Tre) (d c : Nat), (Tre.bC ts).length <= N -> ((∃ x ∈ j5 d ts, c < x) ↔ ts ≠ [] /\ c < d + (Tre.jF ts - 1))
 | _, [], _, _, _ => by simp
 | 0, t :: ts, _, _, h => by have := t.dh; simp only [Tre.cY, fU] at h; omega
 | N + 1, .mk k t n m a ks :: ts, d, c, h => by
   simp only [Tre.cY, Tre.fL, fU, jy] at h
   have h1 := zY N ks (d + 1) c (by omega)
   have h2 := zY N ts d c (by omega)
   have e : (∃ x ∈ j5 d (Tre.mk k t n m a ks :: ts), c < x) ↔ (c < d \/ (∃ x ∈ j5 (d + 1) ks, c < x)) \/ ∃ x ∈ j5 d ts, c < x := by
    simp only [tk, so, jb, eA, fH]
    constructor
    · rintro ⟨x, rfl | hx | hx, hc⟩
      · exact .inl (.inl hc)
      · exact .inl (.inr ⟨x, hx, hc⟩)
      · exact .inr ⟨x, hx, hc⟩
    · rintro ((hc | ⟨x, hx, hc⟩) | ⟨x, hx, hc⟩)
      · exact ⟨d, .inl rfl, hc⟩
      · exact ⟨x, .inr (.inl hx), hc⟩
      · exact ⟨x, .inr (.inr hx), hc⟩
   rw [e, h1, h2]
   simp only [Tre.j0, Tre.Ff, ne_eq, reduceCtorEq, not_false_eq_true, true_and]
   have hd : ∀ l : List Tre, l = [] -> Tre.jF l = 0 := fun l e => by rw [e, Tre.gE]
   have hp : ∀ l : List Tre, ¬ l = [] -> 0 < Tre.jF l := fun l e => by
    cases l with
    | nil => exact absurd rfl e
    | cons t l => rw [Tre.j0]; omega
   by_cases hk : ks = []
   · have := hd ks hk
     by_cases ht : ts = []
     · have := hd ts ht
       simp only [hk, ht, not_true, false_and, or_false, Tre.gE]; omega
     · have := hp ts ht
       simp only [hk, ht, not_true, false_and, or_false, not_false_eq_true, true_and, Tre.gE]; omega
   · have := hp ks hk
     by_cases ht : ts = []
     · simp only [hk, ht, not_true, false_and, or_false, not_false_eq_true, true_and, Tre.gE]; omega
     · have := hp ts ht
       simp only [hk, ht, not_false_eq_true, true_and]; omega
theorem Cx (t : Tre) : (∃ x ∈ lu 0 t, 60 < x) ↔ 60 < t.deep := by
 have := zY _ [t] 0 60 (de _)
 simp only [tk, H2, ja, ne_eq, reduceCtorEq, not_false_eq_true, true_and, Tre.j0, Tre.gE] at this
 rw [this]; omega
def ou (D : List Nat) (p d : Nat) (ts : List Tre) : Prop := ∃ r, D.drop p = j5 d ts ++ r
section
variable {l : List Nd} {D : List Nat} {p d : Nat} {t : Tre} {ts : List Tre}
theorem ou.kB (h : ou D p d (t :: ts)) : D[p]? = some d := by
 obtain ⟨r, h⟩ := h
 have : (D.drop p)[0]? = some d := by
  rw [h]
  cases t
  simp [so]
 simpa using this
theorem ou.tail (h : ou D p d (t :: ts)) : ou D (p + t.flat.length) d ts := by
 obtain ⟨r, h⟩ := h
 refine ⟨r, ?_⟩
 rw [<- List.drop_drop, h, <- rL d t]
 simp
theorem ou.kids (h : ou D p d (t :: ts)) : ou D (p + 1) (d + 1) t.kids := by
 obtain ⟨r, h⟩ := h
 cases t with
 | mk k tx n m a ks =>
 refine ⟨j5 d ts ++ r, ?_⟩
 rw [<- List.drop_drop, h]
 simp [so, Tre.kids]
theorem ou.bJ : ∀ {ts : List Tre} {p : Nat}, ou D p d ts -> ∀ i ∈ bJ p ts, D[i]? = some d
 | [], p, h, i, hi => by simp [Rip.bJ] at hi
 | t :: ts, p, h, i, hi => by
   simp only [Rip.bJ, eA] at hi
   rcases hi with rfl | hi
   · exact h.kB
   · exact h.tail.bJ i hi
theorem vG : ∀ (N : Nat) (ts : List Tre) (p d : Nat), (Tre.bC ts).length <= N -> jr l p ts -> ou D p d ts -> ∀ i, p <= i -> i < p + (Tre.bC ts).length ->
 (∃ s e, eS l i s /\ D[i]? = some e /\ ou D (i + 1) (e + 1) s.kids /\ e + p <= d + i) /\ (i ∈ bJ p ts \/ ∃ i' s', p <= i' /\ i' < i /\ eS l i' s' /\ i ∈ bJ (i' + 1) s'.kids)
 | N, [], p, d, hN, h, hd, i, h1, h2 => by simp at h2; omega
 | 0, t :: ts, p, d, hN, h, hd, i, h1, h2 => by have := t.dh; simp only [Tre.cY, fU] at hN; omega
 | N + 1, t :: ts, p, d, hN, h, hd, i, h1, h2 => by
   have CP := j9 t
   simp only [Tre.cY, fU] at hN h2
   by_cases he : i = p
   · subst he
     exact ⟨⟨t, d, h.head, hd.kB, hd.kids, de _⟩, .inl (by simp [bJ])⟩
   · by_cases hi : i < p + t.flat.length
     · obtain ⟨⟨s, e, a1, a2, a3, a4⟩, b⟩ := vG N t.kids (p + 1) (d + 1) (by omega) h.head.kids hd.kids i (by omega) (by omega)
       refine ⟨⟨s, e, a1, a2, a3, by omega⟩, .inr ?_⟩
       rcases b with b | ⟨i', s', b1, b2, b3⟩
       · exact ⟨p, t, de _, by omega, h.head, b⟩
       · exact ⟨i', s', by omega, b2, b3⟩
     · have := t.dh
       obtain ⟨⟨s, e, a1, a2, a3, a4⟩, b⟩ := vG N ts (p + t.flat.length) d (by omega) h.tail hd.tail i (by omega) (by omega)
       refine ⟨⟨s, e, a1, a2, a3, by omega⟩, ?_⟩
       rcases b with b | ⟨i', s', b1, b2, b3⟩
       · exact .inl (by simp [bJ, b])
       · exact .inr ⟨i', s', by omega, b2, b3⟩
end
theorem place (t : Tre) {i : Nat} (hi : i < t.flat.length) : (∃ s e, eS t.flat i s /\ (lu 0 t)[i]? = some e /\ ou (lu 0 t) (i + 1) (e + 1) s.kids /\ e <= i) /\ (i = 0 \/ ∃ i' s', i' < i /\ eS t.flat i' s' /\ i ∈ bJ (i' + 1) s'.kids) := by
 obtain ⟨⟨s, e, a1, a2, a3, a4⟩, b⟩ := vG (l := t.flat) (D := lu 0 t) t.flat.length [t] 0 0 (by simp) ⟨[], by simp⟩ ⟨[], by simp⟩ i (by omega) (by simpa using hi)
 refine ⟨⟨s, e, a1, a2, a3, by omega⟩, ?_⟩
 rcases b with b | ⟨i', s', b1, b2, b3⟩
 · simp only [bJ, eA, List.not_mem_nil, or_false] at b
   exact .inl b
 · exact .inr ⟨i', s', b2, b3⟩
theorem eS.inj {l : List Nd} {i : Nat} {s s' : Tre} (h : eS l i s) (k : eS l i s') : s = s' := by
 obtain ⟨r, h1⟩ := h
 obtain ⟨r', h2⟩ := k
 obtain ⟨x, hx, _, hs, _⟩ := eS.kB ⟨r, h1⟩
 obtain ⟨x', gZ, _, dL, _⟩ := eS.kB ⟨r', h2⟩
 rw [hx] at gZ; cases gZ
 have := Tre.qS s.flat.length [s] [s'] r r' (by simp) (by simpa using h1.symm.trans h2) (by simp; omega)
 simpa using this
end Go.Rip
