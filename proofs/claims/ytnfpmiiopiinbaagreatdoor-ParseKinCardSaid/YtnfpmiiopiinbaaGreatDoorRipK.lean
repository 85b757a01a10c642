/- Lemmas for the proof: no conditions. -/
import Derived.Test.YtnfpmiiopiinbaaGreatDoorRipZz
import Derived.Test.YtnfpmiiopiinbaaGreatDoorRipI
set_option linter.unusedVariables false
set_option linter.unusedSimpArgs false
set_option linter.loopingSimpArgs false
namespace Go.Rip
inductive FU where
 | item | type | base | term | arg | kind (k : Int)
def uv (k : Int) : Bool := decide (9 <= k /\ k <= 34)
def uu (k : Int) : Bool := decide (k = 6 \/ k = 7)
def yg (k : Int) : Bool := decide (k = 6 \/ k = 7 \/ k = 8)
def yf (k : Int) : Bool := decide (2 <= k /\ k <= 4)
def Bl (k : Int) : Bool := decide (9 <= k /\ k <= 36)
def FU.is : FU -> Int -> Bool
 | .item, k => yf k
 | .type, k => yg k
 | .base, k => uu k
 | .term, k => uv k
 | .arg, k => Bl k
 | .kind c, k => decide (k = c)
structure mJ where
 c : FU
 least : Nat
 mT : Nat
structure C2 where
 text : Bool
 n : Bool
 m : Bool
 kids : List mJ
def gg (k : Int) : Option C2 :=
 if k = 1 then some ⟨false, false, false, [⟨.item, 0, 900⟩]⟩
 else if k = 2 then some ⟨true, false, false, [⟨.type, 1, 1⟩]⟩
 else if k = 3 \/ k = 4 then some ⟨true, false, false, [⟨.kind 5, 0, 900⟩, ⟨.base, 1, 1⟩, ⟨.term, 1, 1⟩]⟩
 else if k = 5 then some ⟨true, false, false, [⟨.type, 1, 1⟩]⟩
 else if k = 6 \/ k = 7 then some ⟨false, true, false, []⟩
 else if k = 8 then some ⟨false, false, false, [⟨.base, 2, 900⟩]⟩
 else if k = 9 then some ⟨false, false, false, [⟨.term, 2, 900⟩]⟩
 else if k = 10 then some ⟨false, false, false, [⟨.term, 3, 3⟩]⟩
 else if k = 11 \/ k = 15 \/ k = 17 \/ k = 18 \/ 20 <= k /\ k <= 24 then some ⟨false, false, false, [⟨.term, 2, 2⟩]⟩
 else if k = 12 then some ⟨true, true, true, [⟨.term, 1, 1⟩]⟩
 else if k = 13 then some ⟨true, false, false, [⟨.term, 2, 2⟩]⟩
 else if k = 14 then some ⟨true, true, false, [⟨.term, 1, 1⟩]⟩
 else if k = 16 then some ⟨true, false, false, [⟨.term, 1, 1⟩]⟩
 else if k = 19 then some ⟨false, false, false, [⟨.term, 1, 1⟩]⟩
 else if k = 25 then some ⟨false, true, false, [⟨.term, 1, 1⟩]⟩
 else if k = 26 then some ⟨false, true, false, []⟩
 else if 27 <= k /\ k <= 30 then some ⟨false, false, false, []⟩
 else if k = 31 \/ k = 32 \/ k = 33 \/ k = 37 then some ⟨true, false, false, []⟩
 else if k = 34 then some ⟨true, false, false, [⟨.arg, 1, 900⟩]⟩
 else if k = 35 then some ⟨false, false, false, [⟨.kind 37, 1, 900⟩, ⟨.term, 1, 1⟩]⟩
 else if k = 36 then some ⟨false, false, false, [⟨.term, 1, 1⟩, ⟨.kind 37, 1, 1⟩, ⟨.term, 1, 1⟩]⟩
 else none
def mf : List Int -> List mJ -> Bool
 | ks, [] => ks.isEmpty
 | ks, s :: rest =>
   let many := ((ks.take (min (ks.length - (rest.map (·.least)).sum) s.mT)).takeWhile s.c.is).length
   if many < s.least then false else mf (ks.drop many) rest
def kK (s : aW) : Bool := decide (gN s = (0, 1, s))
def kn (n : Int) : Bool := decide (0 <= n /\ n <= 1000000)
def jV (x : Nd) (f : C2) : Bool := (f.text == (x.text != [])) && (!f.text || kK x.text) && kn x.n && kn x.m && (f.n || x.n == 0) && (f.m || x.m == 0)
inductive Tre where
 | mk (kind : Int) (text : aW) (n m at_ : Int) (kids : List Tre)
namespace Tre
def kind : Tre -> Int | mk k _ _ _ _ _ => k
def text : Tre -> aW | mk _ t _ _ _ _ => t
def n : Tre -> Int | mk _ _ n _ _ _ => n
def m : Tre -> Int | mk _ _ _ m _ _ => m
def at_ : Tre -> Int | mk _ _ _ _ a _ => a
def kids : Tre -> List Tre | mk _ _ _ _ _ ks => ks
mutual
def flat : Tre -> List Nd
 | mk k t n m a ks => node k t n m a (a7 ks)
def a7 : List Tre -> List Nd
 | [] => []
 | t :: ts => flat t ++ a7 ts
end
mutual
def ok : Tre -> Bool
 | mk k t n m a ks => (match gg k with
   | some f => jV ⟨k, t, n, m, a, 0⟩ f && mf (ks.map kind) f.kids
   | none => false) && u4 ks
def u4 : List Tre -> Bool
 | [] => true
 | t :: ts => ok t && u4 ts
end
mutual
def deep : Tre -> Nat
 | mk _ _ _ _ _ ks => kj ks
def kj : List Tre -> Nat
 | [] => 0
 | t :: ts => max (deep t + 1) (kj ts)
end
end Tre
namespace Tre
end Tre
end Go.Rip
namespace Go.Rip
def ej (l : List Nd) (en : Int) : Nat -> Nat -> List Nat
 | 0, _ => []
 | f + 1, p => match l[p]? with
   | some x => if (p : Int) < en /\ 0 < x.size then p :: ej l en f (p + x.size.toNat) else []
   | none => []
def gh : List Nd -> Nat -> List Int -> Bool
 | [], _, _ => false
 | x :: r, n, es => if 60 < (es.filter ((n : Int) < ·)).length then true else gh r (n + 1) (es.filter ((n : Int) < ·) ++ [(n : Int) + x.size])
def jo (l : List Nd) : Int := match l with | x :: _ => x.size | [] => 0
def oD (l : List Nd) : Bool := gh l 0 [] || decide (24 < (ej l (jo l) l.length 1).length)
namespace Tre
theorem fm {k : Int} {t : aW} {n m a : Int} {ks : List Tre} : flat (mk k t n m a ks) = ⟨k, t, n, m, a, ((a7 ks).length : Int) + 1⟩ :: a7 ks := by rw [flat]; rfl
@[simp] theorem nr : a7 [] = [] := by rw [a7]
@[simp] theorem cb {t : Tre} {ts : List Tre} : a7 (t :: ts) = flat t ++ a7 ts := by rw [a7]
theorem oC : ∀ (l l' : List Tre), a7 (l ++ l') = a7 l ++ a7 l'
 | [], l' => by simp
 | t :: l, l' => by simp [oC l l']
@[simp] theorem Xb : u4 [] = true := by rw [u4]
@[simp] theorem rM {t : Tre} {ts : List Tre} : u4 (t :: ts) = (ok t && u4 ts) := by rw [u4]
@[simp] theorem NM {k : Int} {t : aW} {n m a : Int} {ks : List Tre} : deep (mk k t n m a ks) = kj ks := by rw [deep]
@[simp] theorem lM : kj [] = 0 := by rw [kj]
@[simp] theorem nX {t : Tre} {ts : List Tre} : kj (t :: ts) = max (deep t + 1) (kj ts) := by rw [kj]
theorem cP : ∀ t : Tre, 0 < t.flat.length
 | mk k t n m a ks => by rw [fm]; simp
theorem ta : ∀ ts : List Tre, ts.length <= (a7 ts).length
 | [] => by simp
 | t :: ts => by
   have := ta ts
   have := cP t
   simp; omega
theorem lP : ∀ t : Tre, ∃ x r, t.flat = x :: r /\ x.kind = t.kind /\ x.size = t.flat.length /\ x.text = t.text /\ x.n = t.n /\ x.m = t.m /\ x.at_ = t.at_ /\ r = a7 t.kids
 | mk k t n m a ks => ⟨_, _, fm, rfl, by rw [fm]; simp, rfl, rfl, rfl, rfl, rfl⟩
theorem pg : ∀ (N : Nat) (ts ve : List Tre) (r r' : List Nd), (a7 ts).length <= N -> a7 ts ++ r = a7 ve ++ r' -> (a7 ts).length = (a7 ve).length -> ts = ve
 | N, [], [], _, _, _, _, _ => rfl
 | N, [], t :: ts, _, _, _, _, h => by have := cP t; simp only [cb, nr, eG, tQ] at h; omega
 | N, t :: ts, [], _, _, _, _, h => by have := cP t; simp only [cb, nr, eG, tQ] at h; omega
 | 0, t :: ts, _, _, _, hN, _, _ => by have := cP t; simp only [cb, eG] at hN; omega
 | N + 1, mk k t n m a ks :: ts, mk k' t' n' m' a' ks' :: ve, r, r', hN, h, hl => by
   simp only [cb, fm, jn, oY, List.cons.injEq, Nd.mk.injEq, mB, eG] at h hl hN
   obtain ⟨⟨rfl, rfl, rfl, rfl, rfl, hs⟩, h⟩ := h
   have hs : (a7 ks).length = (a7 ks').length := by omega
   have e := pg N ks ks' (a7 ts ++ r) (a7 ve ++ r') (by omega) h hs
   subst e
   have h2 := List.append_cancel_left h
   have e := pg N ts ve r r' (by omega) h2 (by omega)
   rw [e]
theorem Kg {t t' : Tre} (h : t.flat = t'.flat) : t = t' := by
 have := pg (a7 [t]).length [t] [t'] [] [] (cA _) (by simp [h]) (by simp [h])
 simpa using this
end Tre
def bR : Nat -> List Tre -> List Nat
 | _, [] => []
 | p, t :: ts => p :: bR (p + t.flat.length) ts
theorem sF : ∀ (p : Nat) (ts : List Tre), (bR p ts).length = ts.length
 | _, [] => rfl
 | p, t :: ts => by simp [bR, sF]
def hU (l : List Nd) (p : Nat) (ts : List Tre) : Prop := ∃ r, l.drop p = Tre.a7 ts ++ r
def dT (l : List Nd) (p : Nat) (t : Tre) : Prop := ∃ r, l.drop p = t.flat ++ r
section
variable {l : List Nd} {p : Nat} {t : Tre} {ts : List Tre}
theorem hU.head (h : hU l p (t :: ts)) : dT l p t := by
 obtain ⟨r, h⟩ := h
 exact ⟨Tre.a7 ts ++ r, by rw [h]; simp⟩
theorem hU.tail (h : hU l p (t :: ts)) : hU l (p + t.flat.length) ts := by
 obtain ⟨r, h⟩ := h
 refine ⟨r, ?_⟩
 rw [<- List.drop_drop, h]
 simp
theorem hU.app {ve : List Tre} (h : hU l p (ts ++ ve)) : hU l p ts /\ hU l (p + (Tre.a7 ts).length) ve := by
 obtain ⟨r, h⟩ := h
 refine ⟨⟨Tre.a7 ve ++ r, by rw [h, Tre.oC]; simp⟩, ⟨r, ?_⟩⟩
 rw [<- List.drop_drop, h, Tre.oC]
 simp
theorem dT.mK (h : dT l p t) : ∃ x, l[p]? = some x /\ x.kind = t.kind /\ x.size = t.flat.length /\ x.text = t.text /\ x.n = t.n /\ x.m = t.m /\ x.at_ = t.at_ := by
 obtain ⟨r, h⟩ := h
 obtain ⟨x, r', h1, h2, h3, h4, h5, h6, h7, h8⟩ := t.lP
 refine ⟨x, ?_, h2, h3, h4, h5, h6, h7⟩
 rw [h1] at h
 have : (l.drop p)[0]? = some x := by rw [h]; rfl
 simpa using this
theorem dT.le (h : dT l p t) : p + t.flat.length <= l.length := by
 obtain ⟨r, h⟩ := h
 have h' := congrArg List.length h
 have := t.cP
 simp only [List.length_drop, eG] at h'; omega
theorem hU.le (h : hU l p ts) (hp : p <= l.length) : p + (Tre.a7 ts).length <= l.length := by
 obtain ⟨r, h⟩ := h
 have := congrArg List.length h
 simp at this; omega
theorem dT.kids (h : dT l p t) : hU l (p + 1) t.kids := by
 obtain ⟨r, h⟩ := h
 obtain ⟨x, r', h1, h2, h3, h4, h5, h6, h7, h8⟩ := t.lP
 refine ⟨r, ?_⟩
 rw [<- List.drop_drop, h, h1, h8]
 rfl
theorem jc (t : Tre) : t.flat.length = (Tre.a7 t.kids).length + 1 := by
 cases t with
 | mk k t n m a ks => rw [Tre.fm]; rfl
theorem dT.whole (t : Tre) : dT t.flat 0 t := ⟨[], by simp⟩
theorem zi : ∀ (ts : List Tre) (p f : Nat), hU l p ts -> ts.length <= f -> ej l ((p : Int) + (Tre.a7 ts).length) f p = bR p ts
 | [], p, 0, h, hf => rfl
 | [], p, f + 1, h, hf => by
   simp only [ej, bR, Tre.nr, tQ]
   split
   · rw [if_neg (by omega)]
   · rfl
 | t :: ts, p, 0, h, hf => by simp at hf
 | t :: ts, p, f + 1, h, hf => by
   obtain ⟨x, hx, _, hs, _⟩ := h.head.mK
   have hp := t.cP
   simp only [ej, bR, hx]
   rw [if_pos (by simp; omega)]
   have := zi ts (p + t.flat.length) f h.tail (by simp at hf; omega)
   have e : p + x.size.toNat = p + t.flat.length := by omega
   rw [e, <- this]
   congr 2
   simp; omega
theorem vE (h : dT l p t) : ej l ((p : Int) + t.flat.length) l.length (p + 1) = bR (p + 1) t.kids := by
 have := zi t.kids (p + 1) l.length h.kids (by
  have := h.le
  have := jc t
  have := Tre.ta t.kids
  omega)
 rw [<- this]
 have := jc t
 congr 1
 omega
theorem uF : ∀ (N : Nat) (ts : List Tre) (p : Nat), (Tre.a7 ts).length <= N -> hU l p ts -> ∀ i, p <= i -> i < p + (Tre.a7 ts).length -> ∃ t, dT l i t /\ (Tre.u4 ts = true -> t.ok = true)
 | N, [], p, hN, h, i, h1, h2 => by simp at h2; omega
 | 0, t :: ts, p, hN, h, i, h1, h2 => by have := t.cP; simp only [Tre.cb, eG] at hN; omega
 | N + 1, .mk k tx n m a ks :: ts, p, hN, h, i, h1, h2 => by
   simp only [Tre.cb, Tre.fm, eG, mB] at hN h2
   by_cases he : i = p
   · subst he
     refine ⟨_, h.head, fun ho => ?_⟩
     rw [Tre.rM, bF] at ho
     exact ho.1
   · by_cases hi : i < p + ((Tre.a7 ks).length + 1)
     · obtain ⟨t, ht, ho⟩ := uF N ks (p + 1) (by omega) h.head.kids i (by omega) (by omega)
       refine ⟨t, ht, fun hk => ho ?_⟩
       rw [Tre.rM, Tre.ok] at hk
       simp only [bF] at hk
       exact hk.1.2
     · obtain ⟨t, ht, ho⟩ := uF N ts (p + (Tre.flat (.mk k tx n m a ks)).length) (by omega) h.tail i (by rw [Tre.fm]; simp; omega) (by rw [Tre.fm]; simp; omega)
       refine ⟨t, ht, fun hk => ho ?_⟩
       rw [Tre.rM, bF] at hk
       exact hk.2
end
theorem sw (l : List Nd) (n : Nat) (es : List Int) : gh l n (es.filter ((n : Int) < ·)) = gh l n es := by
 cases l with
 | nil => rfl
 | cons x r => simp only [gh, List.filter_filter, Bool.and_self]
theorem td : ∀ (N : Nat) (ts : List Tre) (n : Nat) (es : List Int) (r : List Nd), (Tre.a7 ts).length <= N -> (∀ e ∈ es, (n : Int) + (Tre.a7 ts).length <= e) ->
 gh (Tre.a7 ts ++ r) n es = ((decide (ts ≠ []) && decide (60 < es.length + (Tre.kj ts - 1))) || gh r (n + (Tre.a7 ts).length) es)
 | N, [], n, es, r, hN, ti => by simp
 | 0, t :: ts, n, es, r, hN, ti => by have := t.cP; simp only [Tre.cb, eG] at hN; omega
 | N + 1, .mk k tx a b c ks :: ts, n, es, r, hN, ti => by
   simp only [Tre.cb, Tre.fm, eG, mB] at hN ti
   have XU : es.filter ((n : Int) < ·) = es := by
    rw [List.filter_eq_self]
    intro e he
    have := ti e he
    simp only [dp]
    omega
   simp only [Tre.cb, Tre.fm, jn, oY, gh, XU, Tre.nX, Tre.NM]
   by_cases tk : 60 < es.length
   · rw [if_pos tk]
     simp; omega
   · rw [if_neg tk]
     have h1 := td N ks (n + 1) (es ++ [(n : Int) + (((Tre.a7 ks).length : Int) + 1)]) (Tre.a7 ts ++ r) (by omega) (fun e he => by
      simp only [fx, kO] at he
      rcases he with he | rfl
      · have := ti e he; omega
      · omega)
     rw [h1]
     have h2 : gh (Tre.a7 ts ++ r) (n + 1 + (Tre.a7 ks).length) (es ++ [(n : Int) + (((Tre.a7 ks).length : Int) + 1)]) = gh (Tre.a7 ts ++ r) (n + 1 + (Tre.a7 ks).length) es := by
      rw [<- sw, <- sw (es := es)]
      congr 1
      rw [List.filter_append]
      have : List.filter (fun x => decide (((n + 1 + (Tre.a7 ks).length : Nat) : Int) < x)) [(n : Int) + (((Tre.a7 ks).length : Int) + 1)] = [] := by
       rw [List.filter_cons_of_neg, List.filter_nil]
       simp only [dp]; omega
      rw [this, jI]
     rw [h2]
     have h3 := td N ts (n + 1 + (Tre.a7 ks).length) es r (by omega) (fun e he => by have := ti e he; omega)
     rw [h3]
     have e1 : n + 1 + (Tre.a7 ks).length + (Tre.a7 ts).length = n + ((Tre.flat (.mk k tx a b c ks)).length + (Tre.a7 ts).length) := by rw [Tre.fm]; simp; omega
     have e2 : n + ((Tre.a7 ks).length + 1 + (Tre.a7 ts).length) = n + 1 + (Tre.a7 ks).length + (Tre.a7 ts).length := by omega
     simp only [eG, mB, tQ, e2, Tre.fm]
     rw [<- Bool.or_assoc]
     congr 1
     rw [mC]
     have hd : ks = [] -> Tre.kj ks = 0 := fun e => by rw [e, Tre.lM]
     have sA : ts = [] -> Tre.kj ts = 0 := fun e => by rw [e, Tre.lM]
     have XO : ks ≠ [] -> 0 < Tre.kj ks := fun e => by
      cases ks with
      | nil => exact absurd rfl e
      | cons t ks => rw [Tre.nX]; omega
     have Qk : ts ≠ [] -> 0 < Tre.kj ts := fun e => by
      cases ts with
      | nil => exact absurd rfl e
      | cons t ks => rw [Tre.nX]; omega
     simp only [gM, bF, dp, ne_eq, reduceCtorEq, not_false_eq_true, true_and]
     by_cases hk : ks = []
     · have := hd hk
       by_cases ht : ts = []
       · have := sA ht
         rw [ht] at this
         simp only [hk, ht, not_true, false_and, or_false, false_iff, Tre.lM]; omega
       · have := Qk ht
         simp only [hk, ht, not_true, false_and, false_or, not_false_eq_true, true_and, Tre.lM]; omega
     · have := XO hk
       by_cases ht : ts = []
       · simp only [hk, ht, not_true, false_and, or_false, not_false_eq_true, true_and, Tre.lM]; omega
       · have := Qk ht
         simp only [hk, ht, not_false_eq_true, true_and]; omega
     congr 1; omega
theorem CD (t : Tre) : gh t.flat 0 [] = decide (60 < t.deep) := by
 have := td t.flat.length [t] 0 [] [] (by simp) (by simp)
 simp only [Tre.cb, Tre.nr, jI, Tre.nX, Tre.lM, ne_eq, reduceCtorEq, not_false_eq_true, cV, Bool.true_and, tQ] at this
 rw [this]
 simp only [gh, Bool.or_false]
 rw [mC]; simp only [dp]; omega
theorem CE (t : Tre) : oD t.flat = (decide (60 < t.deep) || decide (24 < t.kids.length)) := by
 unfold oD
 rw [CD]
 have h := vE (dT.whole t)
 have hs : jo t.flat = ((0 : Nat) : Int) + t.flat.length := by
  obtain ⟨x, r, h1, _, h3, _⟩ := t.lP
  rw [h1] at h3 ⊢
  simp only [jo]; omega
 rw [hs, h, sF]
open Classical in
noncomputable def yB (l : List Nd) : Option Tre := if h : ∃ t : Tre, l = t.flat then some h.choose else none
theorem JA (t : Tre) : yB t.flat = some t := by
 unfold yB
 have h : ∃ t' : Tre, t.flat = t'.flat := ⟨t, rfl⟩
 rw [dif_pos h]
 have := h.choose_spec
 rw [<- Tre.Kg this]
theorem JB {l : List Nd} {t : Tre} (h : yB l = some t) : l = t.flat := by
 unfold yB at h
 split at h
 · rename_i h'
   have := h'.choose_spec
   cases h
   exact this
 · cases h
def At (t : Tre) : Int := if t.kind ≠ 1 \/ t.ok = false then 4 else if 60 < t.deep \/ 24 < t.kids.length then 5 else 0
noncomputable def ia (l : List Nd) : Int := if 900 < l.length then 5 else match yB l with | none => 4 | some t => At t
theorem F7 (t : Tre) (h : ¬ 900 < t.flat.length) : ia t.flat = At t := by unfold ia; rw [if_neg h, JA]
end Go.Rip
namespace Go.Rip
def nk (l : List Nd) (e : Nat) : Nat -> Nat -> Nat
 | 0, p => p
 | f + 1, p => if p < e then nk l e f (p + ((l[p]?.map Nd.size).getD 0).toNat) else p
def cq (l : List Nd) (i : Nat) : Nat := ((l[i]?.map Nd.size).getD 0).toNat
def sO (l : List Nd) : Prop := l ≠ [] /\ jo l = l.length /\ ∀ (i : Nat) (x : Nd), l[i]? = some x -> 1 <= x.size /\ x.size <= (l.length : Int) - i
def zL (l : List Nd) : Prop := sO l /\ ∀ (i : Nat) (x : Nd), l[i]? = some x -> nk l (i + x.size.toNat) l.length (i + 1) = i + x.size.toNat
theorem sk {l : List Nd} {e p : Nat} (h : ¬ p < e) : ∀ f, nk l e f p = p
 | 0 => rfl
 | f + 1 => by rw [nk, if_neg h]
theorem sj {l : List Nd} {e p f : Nat} {x : Nd} (hx : l[p]? = some x) (h : p < e) : nk l e (f + 1) p = nk l e f (p + x.size.toNat) := by
 rw [nk, if_pos h, hx]; rfl
theorem xI {l : List Nd} : ∀ (ts : List Tre) (p f : Nat), hU l p ts -> ts.length <= f -> nk l (p + (Tre.a7 ts).length) f p = p + (Tre.a7 ts).length
 | [], p, f, h, hf => by rw [Tre.nr, sk (by simp)]; rfl
 | t :: ts, p, 0, h, hf => by simp at hf
 | t :: ts, p, f + 1, h, hf => by
   obtain ⟨x, hx, _, hs, _⟩ := h.head.mK
   have hp := t.cP
   rw [sj hx (by simp; omega)]
   have := xI ts (p + t.flat.length) f h.tail (by simp at hf; omega)
   have e : p + x.size.toNat = p + t.flat.length := by omega
   have e2 : p + (Tre.a7 (t :: ts)).length = p + t.flat.length + (Tre.a7 ts).length := by simp; omega
   rw [e, e2, this]
theorem Ft (t : Tre) : zL t.flat := by
 have sub : ∀ i x, t.flat[i]? = some x -> ∃ t', dT t.flat i t' := fun i x hx => by
  have hi := (cT.1 hx).1
  obtain ⟨t', h, _⟩ := uF (l := t.flat) t.flat.length [t] 0 (by simp) ⟨[], by simp⟩ i (by omega) (by simpa using hi)
  exact ⟨t', h⟩
 refine ⟨⟨?_, ?_, fun i x hx => ?_⟩, fun i x hx => ?_⟩
 · have := t.cP
   intro e; rw [e] at this; simp at this
 · obtain ⟨x, r, h1, _, h3, _⟩ := t.lP
   rw [h1] at h3 ⊢; exact h3
 · obtain ⟨t', h⟩ := sub i x hx
   obtain ⟨y, hy, _, hs, _⟩ := h.mK
   rw [hx] at hy; cases hy
   have := h.le
   have := t'.cP
   omega
 · obtain ⟨t', h⟩ := sub i x hx
   obtain ⟨y, hy, _, hs, _⟩ := h.mK
   rw [hx] at hy; cases hy
   have hl := jc t'
   have := xI t'.kids (i + 1) t.flat.length h.kids (by
    have := h.le
    have := Tre.ta t'.kids
    omega)
   have e : i + x.size.toNat = i + 1 + (Tre.a7 t'.kids).length := by omega
   rw [e]; exact this
theorem tV {l : List Nd} (hs : zL l) : ∀ (N i e f : Nat), e - i <= N -> i <= e -> e <= l.length -> e - i <= f -> nk l e f i = e -> ∃ ts, l.drop i = Tre.a7 ts ++ l.drop e /\ (Tre.a7 ts).length = e - i
 | N, i, e, f, hN, Mm, he, hf, hw => by
   by_cases h : i = e
   · subst h; exact ⟨[], by simp, by simp⟩
   · cases N with
     | zero => omega
     | succ N =>
     cases f with
     | zero => omega
     | succ f =>
     obtain ⟨x, hx⟩ : ∃ x, l[i]? = some x := ⟨l[i]'(by omega), by simp⟩
     have MD := hs.1.2.2 i x hx
     rw [sj hx (by omega)] at hw
     have Yy : i + x.size.toNat <= e := by
      rcases ga e (i + x.size.toNat) with h1 | h1
      · rw [sk (by omega)] at hw; omega
      · exact h1
     obtain ⟨ks, k1, k2⟩ := tV hs N (i + 1) (i + x.size.toNat) l.length (by omega) (by omega) (by omega) (by omega) (hs.2 i x hx)
     obtain ⟨ts, t1, t2⟩ := tV hs N (i + x.size.toNat) e f (by omega) Yy he (by omega) hw
     have MA : (Tre.mk x.kind x.text x.n x.m x.at_ ks).flat = x :: Tre.a7 ks := by
      rw [Tre.fm]
      have : ((Tre.a7 ks).length : Int) + 1 = x.size := by omega
      rw [this]
     refine ⟨.mk x.kind x.text x.n x.m x.at_ ks :: ts, ?_, ?_⟩
     · have hd : l.drop i = x :: l.drop (i + 1) := by
        rw [fT (by omega)]
        have := (cT.1 hx).2
        rw [this]
       rw [hd, k1, t1, Tre.cb, MA]
       simp
     · rw [Tre.cb, MA]; simp; omega
theorem zx (l : List Nd) : zL l ↔ ∃ t : Tre, l = t.flat := by
 refine ⟨fun h => ?_, fun ⟨t, ht⟩ => ht ▸ Ft t⟩
 cases l with
 | nil => exact absurd rfl h.1.1
 | cons x r =>
   have cY : x.size = (r.length : Int) + 1 := by have := h.1.2.1; simpa [jo] using this
   have hw := h.2 0 x rfl
   obtain ⟨ks, k1, k2⟩ := tV h r.length 1 (r.length + 1) (r.length + 1) (by omega) (by omega) (by simp) (by omega) (by
    have e : 0 + x.size.toNat = r.length + 1 := by omega
    rw [e] at hw; exact hw)
   refine ⟨.mk x.kind x.text x.n x.m x.at_ ks, ?_⟩
   rw [Tre.fm]
   have hr : r = Tre.a7 ks := by
    have : (x :: r).drop 1 = r := rfl
    rw [this, List.drop_of_length_le (by simp), jI] at k1
    exact k1
   rw [<- hr, <- cY]
end Go.Rip
namespace Go.Rip
mutual
def sY : Nat -> Tre -> List Nat
 | d, .mk _ _ _ _ _ ks => d :: mb (d + 1) ks
def mb : Nat -> List Tre -> List Nat
 | _, [] => []
 | d, t :: ts => sY d t ++ mb d ts
end
@[simp] theorem Us {d : Nat} : mb d [] = [] := by rw [mb]
@[simp] theorem Eb {d : Nat} {t : Tre} {ts : List Tre} : mb d (t :: ts) = sY d t ++ mb d ts := by rw [mb]
theorem xV {d : Nat} {k : Int} {t : aW} {n m a : Int} {ks : List Tre} : sY d (.mk k t n m a ks) = d :: mb (d + 1) ks := by rw [sY]
theorem oA : ∀ (N : Nat) (ts : List Tre) (d : Nat), (Tre.a7 ts).length <= N -> (mb d ts).length = (Tre.a7 ts).length
 | _, [], _, _ => by simp
 | 0, t :: ts, _, h => by have := t.cP; simp only [Tre.cb, eG] at h; omega
 | N + 1, .mk k t n m a ks :: ts, d, h => by
   simp only [Tre.cb, Tre.fm, eG, mB] at h
   have h1 := oA N ks (d + 1) (by omega)
   have h2 := oA N ts d (by omega)
   simp only [Eb, xV, Tre.cb, Tre.fm, eG, mB, h1, h2]
theorem Cy (d : Nat) (t : Tre) : (sY d t).length = t.flat.length := by
 have := oA _ [t] d (cA _)
 simpa using this
def mN (D : List Nat) (p d : Nat) (ts : List Tre) : Prop := ∃ r, D.drop p = mb d ts ++ r
section
variable {l : List Nd} {D : List Nat} {p d : Nat} {t : Tre} {ts : List Tre}
theorem mN.mK (h : mN D p d (t :: ts)) : D[p]? = some d := by
 obtain ⟨r, h⟩ := h
 have : (D.drop p)[0]? = some d := by
  rw [h]
  cases t
  simp [xV]
 simpa using this
theorem mN.tail (h : mN D p d (t :: ts)) : mN D (p + t.flat.length) d ts := by
 obtain ⟨r, h⟩ := h
 refine ⟨r, ?_⟩
 rw [<- List.drop_drop, h, <- Cy d t]
 simp
theorem mN.kids (h : mN D p d (t :: ts)) : mN D (p + 1) (d + 1) t.kids := by
 obtain ⟨r, h⟩ := h
 cases t with
 | mk k tx n m a ks =>
 refine ⟨mb d ts ++ r, ?_⟩
 rw [<- List.drop_drop, h]
 simp [xV, Tre.kids]
theorem mN.bR : ∀ {ts : List Tre} {p : Nat}, mN D p d ts -> ∀ i ∈ bR p ts, D[i]? = some d
 | [], p, h, i, hi => by simp [Rip.bR] at hi
 | t :: ts, p, h, i, hi => by
   simp only [Rip.bR, dD] at hi
   rcases hi with rfl | hi
   · exact h.mK
   · exact h.tail.bR i hi
theorem tG : ∀ (N : Nat) (ts : List Tre) (p d : Nat), (Tre.a7 ts).length <= N -> hU l p ts -> mN D p d ts -> ∀ i, p <= i -> i < p + (Tre.a7 ts).length ->
 (∃ s e, dT l i s /\ D[i]? = some e /\ mN D (i + 1) (e + 1) s.kids /\ e + p <= d + i) /\ (i ∈ bR p ts \/ ∃ i' s', p <= i' /\ i' < i /\ dT l i' s' /\ i ∈ bR (i' + 1) s'.kids)
 | N, [], p, d, hN, h, hd, i, h1, h2 => by simp at h2; omega
 | 0, t :: ts, p, d, hN, h, hd, i, h1, h2 => by have := t.cP; simp only [Tre.cb, eG] at hN; omega
 | N + 1, t :: ts, p, d, hN, h, hd, i, h1, h2 => by
   have AN := jc t
   simp only [Tre.cb, eG] at hN h2
   by_cases he : i = p
   · subst he
     exact ⟨⟨t, d, h.head, hd.mK, hd.kids, cA _⟩, .inl (by simp [bR])⟩
   · by_cases hi : i < p + t.flat.length
     · obtain ⟨⟨s, e, a1, a2, a3, a4⟩, b⟩ := tG N t.kids (p + 1) (d + 1) (by omega) h.head.kids hd.kids i (by omega) (by omega)
       refine ⟨⟨s, e, a1, a2, a3, by omega⟩, .inr ?_⟩
       rcases b with b | ⟨i', s', b1, b2, b3⟩
       · exact ⟨p, t, cA _, by omega, h.head, b⟩
       · exact ⟨i', s', by omega, b2, b3⟩
     · have := t.cP
       obtain ⟨⟨s, e, a1, a2, a3, a4⟩, b⟩ := tG N ts (p + t.flat.length) d (by omega) h.tail hd.tail i (by omega) (by omega)
       refine ⟨⟨s, e, a1, a2, a3, by omega⟩, ?_⟩
       rcases b with b | ⟨i', s', b1, b2, b3⟩
       · exact .inl (by simp [bR, b])
       · exact .inr ⟨i', s', by omega, b2, b3⟩
end
theorem place (t : Tre) {i : Nat} (hi : i < t.flat.length) : (∃ s e, dT t.flat i s /\ (sY 0 t)[i]? = some e /\ mN (sY 0 t) (i + 1) (e + 1) s.kids /\ e <= i) /\ (i = 0 \/ ∃ i' s', i' < i /\ dT t.flat i' s' /\ i ∈ bR (i' + 1) s'.kids) := by
 obtain ⟨⟨s, e, a1, a2, a3, a4⟩, b⟩ := tG (l := t.flat) (D := sY 0 t) t.flat.length [t] 0 0 (by simp) ⟨[], by simp⟩ ⟨[], by simp⟩ i (by omega) (by simpa using hi)
 refine ⟨⟨s, e, a1, a2, a3, by omega⟩, ?_⟩
 rcases b with b | ⟨i', s', b1, b2, b3⟩
 · simp only [bR, dD, List.not_mem_nil, or_false] at b
   exact .inl b
 · exact .inr ⟨i', s', b2, b3⟩
theorem dT.inj {l : List Nd} {i : Nat} {s s' : Tre} (h : dT l i s) (k : dT l i s') : s = s' := by
 obtain ⟨r, h1⟩ := h
 obtain ⟨r', h2⟩ := k
 obtain ⟨x, hx, _, hs, _⟩ := dT.mK ⟨r, h1⟩
 obtain ⟨x', gU, _, c7, _⟩ := dT.mK ⟨r', h2⟩
 rw [hx] at gU; cases gU
 have := Tre.pg s.flat.length [s] [s'] r r' (by simp) (by simpa using h1.symm.trans h2) (by simp; omega)
 simpa using this
end Go.Rip
