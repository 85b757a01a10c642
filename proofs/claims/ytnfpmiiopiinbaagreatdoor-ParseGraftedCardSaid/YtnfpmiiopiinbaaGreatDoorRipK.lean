/- Lemmas for the proof: no conditions. -/
import Derived.Test.YtnfpmiiopiinbaaGreatDoorRipZz
import Derived.Test.YtnfpmiiopiinbaaGreatDoorRipI
set_option linter.unusedVariables false
set_option linter.unusedSimpArgs false
set_option linter.loopingSimpArgs false
namespace Go.Rip
inductive Hi where
 | item | type | base | term | arg | kind (k : Int)
def vA (k : Int) : Bool := decide (9 <= k /\ k <= 34)
def vy (k : Int) : Bool := decide (k = 6 \/ k = 7)
def zj (k : Int) : Bool := decide (k = 6 \/ k = 7 \/ k = 8)
def zi (k : Int) : Bool := decide (2 <= k /\ k <= 4)
def Cv (k : Int) : Bool := decide (9 <= k /\ k <= 36)
def Hi.is : Hi -> Int -> Bool
 | .item, k => zi k
 | .type, k => zj k
 | .base, k => vy k
 | .term, k => vA k
 | .arg, k => Cv k
 | .kind c, k => decide (k = c)
structure nu where
 c : Hi
 least : Nat
 nI : Nat
structure Bj where
 text : Bool
 n : Bool
 m : Bool
 kids : List nu
def gw (k : Int) : Option Bj :=
 if k = 1 then some ⟨false, false, false, [⟨.item, 0, 900⟩]⟩
 else if k = 2 then some ⟨true, false, false, [⟨.type, 1, 1⟩]⟩
 else if k = 3 \/ k = 4 then some ⟨true, false, false, [⟨.kind 5, 0, 900⟩, ⟨.base, 1, 1⟩, ⟨.term, 1, 1⟩]⟩
 else if k = 5 then some ⟨true, false, false, [⟨.type, 1, 1⟩]⟩
 else if k = 6 \/ k = 7 then some ⟨false, true, false, []⟩
 else if k = 8 then some ⟨false, false, false, [⟨.base, 2, 900⟩]⟩
 else if k = 9 then some ⟨false, false, false, [⟨.term, 2, 900⟩]⟩
 else if k = 10 then some ⟨false, false, false, [⟨.term, 3, 3⟩]⟩
 else if k = 11 \/ k = 15 \/ k = 17 \/ k = 18 \/ 20 <= k /\ k <= 24 then some ⟨false, false, false, [⟨.term, 2, 2⟩]⟩
 else if k = 12 then some ⟨true, true, true, [⟨.term, 1, 1⟩]⟩
 else if k = 13 then some ⟨true, false, false, [⟨.term, 2, 2⟩]⟩
 else if k = 14 then some ⟨true, true, false, [⟨.term, 1, 1⟩]⟩
 else if k = 16 then some ⟨true, false, false, [⟨.term, 1, 1⟩]⟩
 else if k = 19 then some ⟨false, false, false, [⟨.term, 1, 1⟩]⟩
 else if k = 25 then some ⟨false, true, false, [⟨.term, 1, 1⟩]⟩
 else if k = 26 then some ⟨false, true, false, []⟩
 else if 27 <= k /\ k <= 30 then some ⟨false, false, false, []⟩
 else if k = 31 \/ k = 32 \/ k = 33 \/ k = 37 then some ⟨true, false, false, []⟩
 else if k = 34 then some ⟨true, false, false, [⟨.arg, 1, 900⟩]⟩
 else if k = 35 then some ⟨false, false, false, [⟨.kind 37, 1, 900⟩, ⟨.term, 1, 1⟩]⟩
 else if k = 36 then some ⟨false, false, false, [⟨.term, 1, 1⟩, ⟨.kind 37, 1, 1⟩, ⟨.term, 1, 1⟩]⟩
 else none
def mI : List Int -> List nu -> Bool
 | ks, [] => ks.isEmpty
 | ks, s :: rest =>
   let many := ((ks.take (min (ks.length - (rest.map (·.least)).sum) s.nI)).takeWhile s.c.is).length
   if many < s.least then false else mI (ks.drop many) rest
def lB (s : aZ) : Bool := decide (ia s = (0, 1, s))
def kY (n : Int) : Bool := decide (0 <= n /\ n <= 1000000)
def kz (x : Nd) (f : Bj) : Bool := (f.text == (x.text != [])) && (!f.text || lB x.text) && kY x.n && kY x.m && (f.n || x.n == 0) && (f.m || x.m == 0)
inductive Tre where
 | mk (kind : Int) (text : aZ) (n m at_ : Int) (kids : List Tre)
namespace Tre
def kind : Tre -> Int | mk k _ _ _ _ _ => k
def text : Tre -> aZ | mk _ t _ _ _ _ => t
def n : Tre -> Int | mk _ _ n _ _ _ => n
def m : Tre -> Int | mk _ _ _ m _ _ => m
def at_ : Tre -> Int | mk _ _ _ _ a _ => a
def kids : Tre -> List Tre | mk _ _ _ _ _ ks => ks
mutual
def flat : Tre -> List Nd
 | mk k t n m a ks => node k t n m a (bg ks)
def bg : List Tre -> List Nd
 | [] => []
 | t :: ts => flat t ++ bg ts
end
mutual
def ok : Tre -> Bool
 | mk k t n m a ks => (match gw k with
   | some f => kz ⟨k, t, n, m, a, 0⟩ f && mI (ks.map kind) f.kids
   | none => false) && qp ks
def qp : List Tre -> Bool
 | [] => true
 | t :: ts => ok t && qp ts
end
mutual
def deep : Tre -> Nat
 | mk _ _ _ _ _ ks => kW ks
def kW : List Tre -> Nat
 | [] => 0
 | t :: ts => max (deep t + 1) (kW ts)
end
end Tre
namespace Tre
end Tre
end Go.Rip
namespace Go.Rip
def fm (l : List Nd) (en : Int) : Nat -> Nat -> List Nat
 | 0, _ => []
 | f + 1, p => match l[p]? with
   | some x => if (p : Int) < en /\ 0 < x.size then p :: fm l en f (p + x.size.toNat) else []
   | none => []
def gx : List Nd -> Nat -> List Int -> Bool
 | [], _, _ => false
 | x :: r, n, es => if 60 < (es.filter ((n : Int) < ·)).length then true else gx r (n + 1) (es.filter ((n : Int) < ·) ++ [(n : Int) + x.size])
def jF (l : List Nd) : Int := match l with | x :: _ => x.size | [] => 0
def pj (l : List Nd) : Bool := gx l 0 [] || decide (24 < (fm l (jF l) l.length 1).length)
namespace Tre
theorem fI {k : Int} {t : aZ} {n m a : Int} {ks : List Tre} : flat (mk k t n m a ks) = ⟨k, t, n, m, a, ((bg ks).length : Int) + 1⟩ :: bg ks := by rw [flat]; rfl
@[simp] theorem n7 : bg [] = [] := by rw [bg]
@[simp] theorem cE {t : Tre} {ts : List Tre} : bg (t :: ts) = flat t ++ bg ts := by rw [bg]
theorem mK : ∀ (l l' : List Tre), bg (l ++ l') = bg l ++ bg l'
 | [], l' => by simp
 | t :: l, l' => by simp [mK l l']
@[simp] theorem Zl : qp [] = true := by rw [qp]
@[simp] theorem sJ {t : Tre} {ts : List Tre} : qp (t :: ts) = (ok t && qp ts) := by rw [qp]
theorem ye : ∀ (l l' : List Tre), qp (l ++ l') = (qp l && qp l')
 | [], l' => by simp
 | t :: l, l' => by simp [ye l l', Bool.and_assoc]
@[simp] theorem Pu {k : Int} {t : aZ} {n m a : Int} {ks : List Tre} : deep (mk k t n m a ks) = kW ks := by rw [deep]
@[simp] theorem mg : kW [] = 0 := by rw [kW]
@[simp] theorem oS {t : Tre} {ts : List Tre} : kW (t :: ts) = max (deep t + 1) (kW ts) := by rw [kW]
theorem cV : ∀ t : Tre, 0 < t.flat.length
 | mk k t n m a ks => by rw [fI]; simp
theorem p7 : ∀ ts : List Tre, ts.length <= (bg ts).length
 | [] => by simp
 | t :: ts => by
   have := p7 ts
   have := cV t
   simp; omega
theorem mj : ∀ t : Tre, ∃ x r, t.flat = x :: r /\ x.kind = t.kind /\ x.size = t.flat.length /\ x.text = t.text /\ x.n = t.n /\ x.m = t.m /\ x.at_ = t.at_ /\ r = bg t.kids
 | mk k t n m a ks => ⟨_, _, fI, rfl, by rw [fI]; simp, rfl, rfl, rfl, rfl, rfl⟩
theorem p6 : ∀ (N : Nat) (ts wE : List Tre) (r r' : List Nd), (bg ts).length <= N -> bg ts ++ r = bg wE ++ r' -> (bg ts).length = (bg wE).length -> ts = wE
 | N, [], [], _, _, _, _, _ => rfl
 | N, [], t :: ts, _, _, _, _, h => by have := cV t; simp only [cE, n7, ep, uR] at h; omega
 | N, t :: ts, [], _, _, _, _, h => by have := cV t; simp only [cE, n7, ep, uR] at h; omega
 | 0, t :: ts, _, _, _, hN, _, _ => by have := cV t; simp only [cE, ep] at hN; omega
 | N + 1, mk k t n m a ks :: ts, mk k' t' n' m' a' ks' :: wE, r, r', hN, h, hl => by
   simp only [cE, fI, jh, kf, List.cons.injEq, Nd.mk.injEq, nc, ep] at h hl hN
   obtain ⟨⟨rfl, rfl, rfl, rfl, rfl, hs⟩, h⟩ := h
   have hs : (bg ks).length = (bg ks').length := by omega
   have e := p6 N ks ks' (bg ts ++ r) (bg wE ++ r') (by omega) h hs
   subst e
   have h2 := List.append_cancel_left h
   have e := p6 N ts wE r r' (by omega) h2 (by omega)
   rw [e]
theorem LI {t t' : Tre} (h : t.flat = t'.flat) : t = t' := by
 have := p6 (bg [t]).length [t] [t'] [] [] (cG _) (by simp [h]) (by simp [h])
 simpa using this
end Tre
def cK : Nat -> List Tre -> List Nat
 | _, [] => []
 | p, t :: ts => p :: cK (p + t.flat.length) ts
theorem tK : ∀ (p : Nat) (ts : List Tre), (cK p ts).length = ts.length
 | _, [] => rfl
 | p, t :: ts => by simp [cK, tK]
def js (l : List Nd) (p : Nat) (ts : List Tre) : Prop := ∃ r, l.drop p = Tre.bg ts ++ r
def eZ (l : List Nd) (p : Nat) (t : Tre) : Prop := ∃ r, l.drop p = t.flat ++ r
section
variable {l : List Nd} {p : Nat} {t : Tre} {ts : List Tre}
theorem js.head (h : js l p (t :: ts)) : eZ l p t := by
 obtain ⟨r, h⟩ := h
 exact ⟨Tre.bg ts ++ r, by rw [h]; simp⟩
theorem js.tail (h : js l p (t :: ts)) : js l (p + t.flat.length) ts := by
 obtain ⟨r, h⟩ := h
 refine ⟨r, ?_⟩
 rw [<- List.drop_drop, h]
 simp
theorem js.app {wE : List Tre} (h : js l p (ts ++ wE)) : js l p ts /\ js l (p + (Tre.bg ts).length) wE := by
 obtain ⟨r, h⟩ := h
 refine ⟨⟨Tre.bg wE ++ r, by rw [h, Tre.mK]; simp⟩, ⟨r, ?_⟩⟩
 rw [<- List.drop_drop, h, Tre.mK]
 simp
theorem eZ.mE (h : eZ l p t) : ∃ x, l[p]? = some x /\ x.kind = t.kind /\ x.size = t.flat.length /\ x.text = t.text /\ x.n = t.n /\ x.m = t.m /\ x.at_ = t.at_ := by
 obtain ⟨r, h⟩ := h
 obtain ⟨x, r', h1, h2, h3, h4, h5, h6, h7, h8⟩ := t.mj
 refine ⟨x, ?_, h2, h3, h4, h5, h6, h7⟩
 rw [h1] at h
 have : (l.drop p)[0]? = some x := by rw [h]; rfl
 simpa using this
theorem eZ.le (h : eZ l p t) : p + t.flat.length <= l.length := by
 obtain ⟨r, h⟩ := h
 have h' := congrArg List.length h
 have := t.cV
 simp only [List.length_drop, ep] at h'; omega
theorem js.le (h : js l p ts) (hp : p <= l.length) : p + (Tre.bg ts).length <= l.length := by
 obtain ⟨r, h⟩ := h
 have := congrArg List.length h
 simp at this; omega
theorem eZ.kids (h : eZ l p t) : js l (p + 1) t.kids := by
 obtain ⟨r, h⟩ := h
 obtain ⟨x, r', h1, h2, h3, h4, h5, h6, h7, h8⟩ := t.mj
 refine ⟨r, ?_⟩
 rw [<- List.drop_drop, h, h1, h8]
 rfl
theorem iD (t : Tre) : t.flat.length = (Tre.bg t.kids).length + 1 := by
 cases t with
 | mk k t n m a ks => rw [Tre.fI]; rfl
theorem eZ.whole (t : Tre) : eZ t.flat 0 t := ⟨[], by simp⟩
theorem Aq : ∀ (ts : List Tre) (p f : Nat), js l p ts -> ts.length <= f -> fm l ((p : Int) + (Tre.bg ts).length) f p = cK p ts
 | [], p, 0, h, hf => rfl
 | [], p, f + 1, h, hf => by
   simp only [fm, cK, Tre.n7, uR]
   split
   · rw [if_neg (by omega)]
   · rfl
 | t :: ts, p, 0, h, hf => by simp at hf
 | t :: ts, p, f + 1, h, hf => by
   obtain ⟨x, hx, _, hs, _⟩ := h.head.mE
   have hp := t.cV
   simp only [fm, cK, hx]
   rw [if_pos (by simp; omega)]
   have := Aq ts (p + t.flat.length) f h.tail (by simp at hf; omega)
   have e : p + x.size.toNat = p + t.flat.length := by omega
   rw [e, <- this]
   congr 2
   simp; omega
theorem Cy (h : eZ l p t) : fm l ((p : Int) + t.flat.length) l.length (p + 1) = cK (p + 1) t.kids := by
 have := Aq t.kids (p + 1) l.length h.kids (by
  have := h.le
  have := iD t
  have := Tre.p7 t.kids
  omega)
 rw [<- this]
 have := iD t
 congr 1
 omega
theorem vK : ∀ (N : Nat) (ts : List Tre) (p : Nat), (Tre.bg ts).length <= N -> js l p ts -> ∀ i, p <= i -> i < p + (Tre.bg ts).length -> ∃ t, eZ l i t /\ (Tre.qp ts = true -> t.ok = true)
 | N, [], p, hN, h, i, h1, h2 => by simp at h2; omega
 | 0, t :: ts, p, hN, h, i, h1, h2 => by have := t.cV; simp only [Tre.cE, ep] at hN; omega
 | N + 1, .mk k tx n m a ks :: ts, p, hN, h, i, h1, h2 => by
   simp only [Tre.cE, Tre.fI, ep, nc] at hN h2
   by_cases he : i = p
   · subst he
     refine ⟨_, h.head, fun ho => ?_⟩
     rw [Tre.sJ, bM] at ho
     exact ho.1
   · by_cases hi : i < p + ((Tre.bg ks).length + 1)
     · obtain ⟨t, ht, ho⟩ := vK N ks (p + 1) (by omega) h.head.kids i (by omega) (by omega)
       refine ⟨t, ht, fun hk => ho ?_⟩
       rw [Tre.sJ, Tre.ok] at hk
       simp only [bM] at hk
       exact hk.1.2
     · obtain ⟨t, ht, ho⟩ := vK N ts (p + (Tre.flat (.mk k tx n m a ks)).length) (by omega) h.tail i (by rw [Tre.fI]; simp; omega) (by rw [Tre.fI]; simp; omega)
       refine ⟨t, ht, fun hk => ho ?_⟩
       rw [Tre.sJ, bM] at hk
       exact hk.2
end
theorem tw (l : List Nd) (n : Nat) (es : List Int) : gx l n (es.filter ((n : Int) < ·)) = gx l n es := by
 cases l with
 | nil => rfl
 | cons x r => simp only [gx, List.filter_filter, Bool.and_self]
theorem uj : ∀ (N : Nat) (ts : List Tre) (n : Nat) (es : List Int) (r : List Nd), (Tre.bg ts).length <= N -> (∀ e ∈ es, (n : Int) + (Tre.bg ts).length <= e) ->
 gx (Tre.bg ts ++ r) n es = ((decide (ts ≠ []) && decide (60 < es.length + (Tre.kW ts - 1))) || gx r (n + (Tre.bg ts).length) es)
 | N, [], n, es, r, hN, uq => by simp
 | 0, t :: ts, n, es, r, hN, uq => by have := t.cV; simp only [Tre.cE, ep] at hN; omega
 | N + 1, .mk k tx a b c ks :: ts, n, es, r, hN, uq => by
   simp only [Tre.cE, Tre.fI, ep, nc] at hN uq
   have Z5 : es.filter ((n : Int) < ·) = es := by
    rw [List.filter_eq_self]
    intro e he
    have := uq e he
    simp only [dD]
    omega
   simp only [Tre.cE, Tre.fI, jh, kf, gx, Z5, Tre.oS, Tre.Pu]
   by_cases rC : 60 < es.length
   · rw [if_pos rC]
     simp; omega
   · rw [if_neg rC]
     have h1 := uj N ks (n + 1) (es ++ [(n : Int) + (((Tre.bg ks).length : Int) + 1)]) (Tre.bg ts ++ r) (by omega) (fun e he => by
      simp only [eH, kM] at he
      rcases he with he | rfl
      · have := uq e he; omega
      · omega)
     rw [h1]
     have h2 : gx (Tre.bg ts ++ r) (n + 1 + (Tre.bg ks).length) (es ++ [(n : Int) + (((Tre.bg ks).length : Int) + 1)]) = gx (Tre.bg ts ++ r) (n + 1 + (Tre.bg ks).length) es := by
      rw [<- tw, <- tw (es := es)]
      congr 1
      rw [List.filter_append]
      have : List.filter (fun x => decide (((n + 1 + (Tre.bg ks).length : Nat) : Int) < x)) [(n : Int) + (((Tre.bg ks).length : Int) + 1)] = [] := by
       rw [List.filter_cons_of_neg, List.filter_nil]
       simp only [dD]; omega
      rw [this, iI]
     rw [h2]
     have h3 := uj N ts (n + 1 + (Tre.bg ks).length) es r (by omega) (fun e he => by have := uq e he; omega)
     rw [h3]
     have e1 : n + 1 + (Tre.bg ks).length + (Tre.bg ts).length = n + ((Tre.flat (.mk k tx a b c ks)).length + (Tre.bg ts).length) := by rw [Tre.fI]; simp; omega
     have e2 : n + ((Tre.bg ks).length + 1 + (Tre.bg ts).length) = n + 1 + (Tre.bg ks).length + (Tre.bg ts).length := by omega
     simp only [ep, nc, uR, e2, Tre.fI]
     rw [<- Bool.or_assoc]
     congr 1
     rw [nf]
     have hd : ks = [] -> Tre.kW ks = 0 := fun e => by rw [e, Tre.mg]
     have tB : ts = [] -> Tre.kW ts = 0 := fun e => by rw [e, Tre.mg]
     have ZZ : ks ≠ [] -> 0 < Tre.kW ks := fun e => by
      cases ks with
      | nil => exact absurd rfl e
      | cons t ks => rw [Tre.oS]; omega
     have RX : ts ≠ [] -> 0 < Tre.kW ts := fun e => by
      cases ts with
      | nil => exact absurd rfl e
      | cons t ks => rw [Tre.oS]; omega
     simp only [hZ, bM, dD, ne_eq, reduceCtorEq, not_false_eq_true, true_and]
     by_cases hk : ks = []
     · have := hd hk
       by_cases ht : ts = []
       · have := tB ht
         rw [ht] at this
         simp only [hk, ht, not_true, false_and, or_false, false_iff, Tre.mg]; omega
       · have := RX ht
         simp only [hk, ht, not_true, false_and, false_or, not_false_eq_true, true_and, Tre.mg]; omega
     · have := ZZ hk
       by_cases ht : ts = []
       · simp only [hk, ht, not_true, false_and, or_false, not_false_eq_true, true_and, Tre.mg]; omega
       · have := RX ht
         simp only [hk, ht, not_false_eq_true, true_and]; omega
     congr 1; omega
theorem DJ (t : Tre) : gx t.flat 0 [] = decide (60 < t.deep) := by
 have := uj t.flat.length [t] 0 [] [] (by simp) (by simp)
 simp only [Tre.cE, Tre.n7, iI, Tre.oS, Tre.mg, ne_eq, reduceCtorEq, not_false_eq_true, cX, Bool.true_and, uR] at this
 rw [this]
 simp only [gx, Bool.or_false]
 rw [nf]; simp only [dD]; omega
theorem DK (t : Tre) : pj t.flat = (decide (60 < t.deep) || decide (24 < t.kids.length)) := by
 unfold pj
 rw [DJ]
 have h := Cy (eZ.whole t)
 have hs : jF t.flat = ((0 : Nat) : Int) + t.flat.length := by
  obtain ⟨x, r, h1, _, h3, _⟩ := t.mj
  rw [h1] at h3 ⊢
  simp only [jF]; omega
 rw [hs, h, tK]
open Classical in
noncomputable def u5 (l : List Nd) : Option Tre := if h : ∃ t : Tre, l = t.flat then some h.choose else none
theorem KZ (t : Tre) : u5 t.flat = some t := by
 unfold u5
 have h : ∃ t' : Tre, t.flat = t'.flat := ⟨t, rfl⟩
 rw [dif_pos h]
 have := h.choose_spec
 rw [<- Tre.LI this]
theorem K2 {l : List Nd} (h : ¬ ∃ t : Tre, l = t.flat) : u5 l = none := by unfold u5; rw [dif_neg h]
theorem K3 {l : List Nd} {t : Tre} (h : u5 l = some t) : l = t.flat := by
 unfold u5 at h
 split at h
 · rename_i h'
   have := h'.choose_spec
   cases h
   exact this
 · cases h
def yW (t : Tre) : Int := if t.kind ≠ 1 \/ t.ok = false then 4 else if 60 < t.deep \/ 24 < t.kids.length then 5 else 0
noncomputable def dI (l : List Nd) : Int := if 900 < l.length then 5 else match u5 l with | none => 4 | some t => yW t
theorem Hv (t : Tre) (h : ¬ 900 < t.flat.length) : dI t.flat = yW t := by unfold dI; rw [if_neg h, KZ]
end Go.Rip
namespace Go.Rip
def n0 (l : List Nd) (e : Nat) : Nat -> Nat -> Nat
 | 0, p => p
 | f + 1, p => if p < e then n0 l e f (p + ((l[p]?.map Nd.size).getD 0).toNat) else p
def a8 (l : List Nd) (i : Nat) : Nat := ((l[i]?.map Nd.size).getD 0).toNat
def tQ (l : List Nd) : Prop := l ≠ [] /\ jF l = l.length /\ ∀ (i : Nat) (x : Nd), l[i]? = some x -> 1 <= x.size /\ x.size <= (l.length : Int) - i
def AW (l : List Nd) : Prop := tQ l /\ ∀ (i : Nat) (x : Nd), l[i]? = some x -> n0 l (i + x.size.toNat) l.length (i + 1) = i + x.size.toNat
theorem tl {l : List Nd} {e p : Nat} (h : ¬ p < e) : ∀ f, n0 l e f p = p
 | 0 => rfl
 | f + 1 => by rw [n0, if_neg h]
theorem tk {l : List Nd} {e p f : Nat} {x : Nd} (hx : l[p]? = some x) (h : p < e) : n0 l e (f + 1) p = n0 l e f (p + x.size.toNat) := by
 rw [n0, if_pos h, hx]; rfl
theorem yL {l : List Nd} : ∀ (ts : List Tre) (p f : Nat), js l p ts -> ts.length <= f -> n0 l (p + (Tre.bg ts).length) f p = p + (Tre.bg ts).length
 | [], p, f, h, hf => by rw [Tre.n7, tl (by simp)]; rfl
 | t :: ts, p, 0, h, hf => by simp at hf
 | t :: ts, p, f + 1, h, hf => by
   obtain ⟨x, hx, _, hs, _⟩ := h.head.mE
   have hp := t.cV
   rw [tk hx (by simp; omega)]
   have := yL ts (p + t.flat.length) f h.tail (by simp at hf; omega)
   have e : p + x.size.toNat = p + t.flat.length := by omega
   have e2 : p + (Tre.bg (t :: ts)).length = p + t.flat.length + (Tre.bg ts).length := by simp; omega
   rw [e, e2, this]
theorem GM (t : Tre) : AW t.flat := by
 have sub : ∀ i x, t.flat[i]? = some x -> ∃ t', eZ t.flat i t' := fun i x hx => by
  have hi := (dx.1 hx).1
  obtain ⟨t', h, _⟩ := vK (l := t.flat) t.flat.length [t] 0 (by simp) ⟨[], by simp⟩ i (by omega) (by simpa using hi)
  exact ⟨t', h⟩
 refine ⟨⟨?_, ?_, fun i x hx => ?_⟩, fun i x hx => ?_⟩
 · have := t.cV
   intro e; rw [e] at this; simp at this
 · obtain ⟨x, r, h1, _, h3, _⟩ := t.mj
   rw [h1] at h3 ⊢; exact h3
 · obtain ⟨t', h⟩ := sub i x hx
   obtain ⟨y, hy, _, hs, _⟩ := h.mE
   rw [hx] at hy; cases hy
   have := h.le
   have := t'.cV
   omega
 · obtain ⟨t', h⟩ := sub i x hx
   obtain ⟨y, hy, _, hs, _⟩ := h.mE
   rw [hx] at hy; cases hy
   have hl := iD t'
   have := yL t'.kids (i + 1) t.flat.length h.kids (by
    have := h.le
    have := Tre.p7 t'.kids
    omega)
   have e : i + x.size.toNat = i + 1 + (Tre.bg t'.kids).length := by omega
   rw [e]; exact this
theorem uW {l : List Nd} (hs : AW l) : ∀ (N i e f : Nat), e - i <= N -> i <= e -> e <= l.length -> e - i <= f -> n0 l e f i = e -> ∃ ts, l.drop i = Tre.bg ts ++ l.drop e /\ (Tre.bg ts).length = e - i
 | N, i, e, f, hN, WI, he, hf, hw => by
   by_cases h : i = e
   · subst h; exact ⟨[], by simp, by simp⟩
   · cases N with
     | zero => omega
     | succ N =>
     cases f with
     | zero => omega
     | succ f =>
     obtain ⟨x, hx⟩ : ∃ x, l[i]? = some x := ⟨l[i]'(by omega), by simp⟩
     have EC := hs.1.2.2 i x hx
     rw [tk hx (by omega)] at hw
     have hse : i + x.size.toNat <= e := by
      rcases fT e (i + x.size.toNat) with h1 | h1
      · rw [tl (by omega)] at hw; omega
      · exact h1
     obtain ⟨ks, k1, k2⟩ := uW hs N (i + 1) (i + x.size.toNat) l.length (by omega) (by omega) (by omega) (by omega) (hs.2 i x hx)
     obtain ⟨ts, t1, t2⟩ := uW hs N (i + x.size.toNat) e f (by omega) hse he (by omega) hw
     have N3 : (Tre.mk x.kind x.text x.n x.m x.at_ ks).flat = x :: Tre.bg ks := by
      rw [Tre.fI]
      have : ((Tre.bg ks).length : Int) + 1 = x.size := by omega
      rw [this]
     refine ⟨.mk x.kind x.text x.n x.m x.at_ ks :: ts, ?_, ?_⟩
     · have hd : l.drop i = x :: l.drop (i + 1) := by
        rw [gp (by omega)]
        have := (dx.1 hx).2
        rw [this]
       rw [hd, k1, t1, Tre.cE, N3]
       simp
     · rw [Tre.cE, N3]; simp; omega
theorem AG (l : List Nd) : AW l ↔ ∃ t : Tre, l = t.flat := by
 refine ⟨fun h => ?_, fun ⟨t, ht⟩ => ht ▸ GM t⟩
 cases l with
 | nil => exact absurd rfl h.1.1
 | cons x r =>
   have da : x.size = (r.length : Int) + 1 := by have := h.1.2.1; simpa [jF] using this
   have hw := h.2 0 x rfl
   obtain ⟨ks, k1, k2⟩ := uW h r.length 1 (r.length + 1) (r.length + 1) (by omega) (by omega) (by simp) (by omega) (by
    have e : 0 + x.size.toNat = r.length + 1 := by omega
    rw [e] at hw; exact hw)
   refine ⟨.mk x.kind x.text x.n x.m x.at_ ks, ?_⟩
   rw [Tre.fI]
   have hr : r = Tre.bg ks := by
    have : (x :: r).drop 1 = r := rfl
    rw [this, List.drop_of_length_le (by simp), iI] at k1
    exact k1
   rw [<- hr, <- da]
end Go.Rip
namespace Go.Rip
mutual
def ub : Nat -> Tre -> List Nat
 | d, .mk _ _ _ _ _ ks => d :: mG (d + 1) ks
def mG : Nat -> List Tre -> List Nat
 | _, [] => []
 | d, t :: ts => ub d t ++ mG d ts
end
@[simp] theorem Wo {d : Nat} : mG d [] = [] := by rw [mG]
@[simp] theorem Fw {d : Nat} {t : Tre} {ts : List Tre} : mG d (t :: ts) = ub d t ++ mG d ts := by rw [mG]
theorem yZ {d : Nat} {k : Int} {t : aZ} {n m a : Int} {ks : List Tre} : ub d (.mk k t n m a ks) = d :: mG (d + 1) ks := by rw [ub]
theorem pg : ∀ (N : Nat) (ts : List Tre) (d : Nat), (Tre.bg ts).length <= N -> (mG d ts).length = (Tre.bg ts).length
 | _, [], _, _ => by simp
 | 0, t :: ts, _, h => by have := t.cV; simp only [Tre.cE, ep] at h; omega
 | N + 1, .mk k t n m a ks :: ts, d, h => by
   simp only [Tre.cE, Tre.fI, ep, nc] at h
   have h1 := pg N ks (d + 1) (by omega)
   have h2 := pg N ts d (by omega)
   simp only [Fw, yZ, Tre.cE, Tre.fI, ep, nc, h1, h2]
theorem DD (d : Nat) (t : Tre) : (ub d t).length = t.flat.length := by
 have := pg _ [t] d (cG _)
 simpa using this
def nA (D : List Nat) (p d : Nat) (ts : List Tre) : Prop := ∃ r, D.drop p = mG d ts ++ r
section
variable {l : List Nd} {D : List Nat} {p d : Nat} {t : Tre} {ts : List Tre}
theorem nA.mE (h : nA D p d (t :: ts)) : D[p]? = some d := by
 obtain ⟨r, h⟩ := h
 have : (D.drop p)[0]? = some d := by
  rw [h]
  cases t
  simp [yZ]
 simpa using this
theorem nA.tail (h : nA D p d (t :: ts)) : nA D (p + t.flat.length) d ts := by
 obtain ⟨r, h⟩ := h
 refine ⟨r, ?_⟩
 rw [<- List.drop_drop, h, <- DD d t]
 simp
theorem nA.kids (h : nA D p d (t :: ts)) : nA D (p + 1) (d + 1) t.kids := by
 obtain ⟨r, h⟩ := h
 cases t with
 | mk k tx n m a ks =>
 refine ⟨mG d ts ++ r, ?_⟩
 rw [<- List.drop_drop, h]
 simp [yZ, Tre.kids]
theorem nA.cK : ∀ {ts : List Tre} {p : Nat}, nA D p d ts -> ∀ i ∈ cK p ts, D[i]? = some d
 | [], p, h, i, hi => by simp [Rip.cK] at hi
 | t :: ts, p, h, i, hi => by
   simp only [Rip.cK, dA] at hi
   rcases hi with rfl | hi
   · exact h.mE
   · exact h.tail.cK i hi
theorem uL : ∀ (N : Nat) (ts : List Tre) (p d : Nat), (Tre.bg ts).length <= N -> js l p ts -> nA D p d ts -> ∀ i, p <= i -> i < p + (Tre.bg ts).length ->
 (∃ s e, eZ l i s /\ D[i]? = some e /\ nA D (i + 1) (e + 1) s.kids /\ e + p <= d + i) /\ (i ∈ cK p ts \/ ∃ i' s', p <= i' /\ i' < i /\ eZ l i' s' /\ i ∈ cK (i' + 1) s'.kids)
 | N, [], p, d, hN, h, hd, i, h1, h2 => by simp at h2; omega
 | 0, t :: ts, p, d, hN, h, hd, i, h1, h2 => by have := t.cV; simp only [Tre.cE, ep] at hN; omega
 | N + 1, t :: ts, p, d, hN, h, hd, i, h1, h2 => by
   have rB := iD t
   simp only [Tre.cE, ep] at hN h2
   by_cases he : i = p
   · subst he
     exact ⟨⟨t, d, h.head, hd.mE, hd.kids, cG _⟩, .inl (by simp [cK])⟩
   · by_cases hi : i < p + t.flat.length
     · obtain ⟨⟨s, e, a1, a2, a3, a4⟩, b⟩ := uL N t.kids (p + 1) (d + 1) (by omega) h.head.kids hd.kids i (by omega) (by omega)
       refine ⟨⟨s, e, a1, a2, a3, by omega⟩, .inr ?_⟩
       rcases b with b | ⟨i', s', b1, b2, b3⟩
       · exact ⟨p, t, cG _, by omega, h.head, b⟩
       · exact ⟨i', s', by omega, b2, b3⟩
     · have := t.cV
       obtain ⟨⟨s, e, a1, a2, a3, a4⟩, b⟩ := uL N ts (p + t.flat.length) d (by omega) h.tail hd.tail i (by omega) (by omega)
       refine ⟨⟨s, e, a1, a2, a3, by omega⟩, ?_⟩
       rcases b with b | ⟨i', s', b1, b2, b3⟩
       · exact .inl (by simp [cK, b])
       · exact .inr ⟨i', s', by omega, b2, b3⟩
end
theorem place (t : Tre) {i : Nat} (hi : i < t.flat.length) : (∃ s e, eZ t.flat i s /\ (ub 0 t)[i]? = some e /\ nA (ub 0 t) (i + 1) (e + 1) s.kids /\ e <= i) /\ (i = 0 \/ ∃ i' s', i' < i /\ eZ t.flat i' s' /\ i ∈ cK (i' + 1) s'.kids) := by
 obtain ⟨⟨s, e, a1, a2, a3, a4⟩, b⟩ := uL (l := t.flat) (D := ub 0 t) t.flat.length [t] 0 0 (by simp) ⟨[], by simp⟩ ⟨[], by simp⟩ i (by omega) (by simpa using hi)
 refine ⟨⟨s, e, a1, a2, a3, by omega⟩, ?_⟩
 rcases b with b | ⟨i', s', b1, b2, b3⟩
 · simp only [cK, dA, List.not_mem_nil, or_false] at b
   exact .inl b
 · exact .inr ⟨i', s', b2, b3⟩
theorem eZ.inj {l : List Nd} {i : Nat} {s s' : Tre} (h : eZ l i s) (k : eZ l i s') : s = s' := by
 obtain ⟨r, h1⟩ := h
 obtain ⟨r', h2⟩ := k
 obtain ⟨x, hx, _, hs, _⟩ := eZ.mE ⟨r, h1⟩
 obtain ⟨x', gL, _, dw, _⟩ := eZ.mE ⟨r', h2⟩
 rw [hx] at gL; cases gL
 have := Tre.p6 s.flat.length [s] [s'] r r' (by simp) (by simpa using h1.symm.trans h2) (by simp; omega)
 simpa using this
end Go.Rip
