/- Lemmas for the proof: no conditions. -/
import Derived.Test.YtnfpmiiopiinbaaGreatDoorRipZz
import Derived.Test.YtnfpmiiopiinbaaGreatDoorRipYb
set_option linter.unusedVariables false
set_option linter.unusedSimpArgs false
set_option linter.loopingSimpArgs false
namespace Go.Rip
open Go.Proofs Go.RowKit
theorem sg : ∀ {ts : List Tre} {p k : Nat}, k ∈ bG p ts -> p <= k
 | [], p, k, h => by simp [bG] at h
 | t :: ts, p, k, h => by
   simp only [bG, dS] at h
   rcases h with rfl | h
   · exact cX _
   · have := sg h; omega
theorem uT : ∀ {ts : List Tre} {p k : Nat}, k ∈ bG p ts -> k < p + (Tre.bB ts).length
 | [], p, k, h => by simp [bG] at h
 | t :: ts, p, k, h => by
   simp only [bG, dS] at h
   have := t.cV
   simp only [Tre.cO, eU]
   rcases h with rfl | h
   · omega
   · have := uT h; omega
theorem my {l : List Nd} {i : Nat} {s : Tre} (h : eQ l i s) : bY l i = s.flat.length := by
 obtain ⟨x, hx, _, hs, _⟩ := h.lB
 rw [sd hx]; omega
theorem s9 {l : List Nd} : ∀ (N : Nat) (ts : List Tre) (p : Nat), (Tre.bB ts).length <= N -> jr l p ts ->
 (∀ j, p <= j -> j < p + (Tre.bB ts).length -> j + bY l j <= p + (Tre.bB ts).length) /\ ∀ k ∈ bG p ts, ∀ j, p <= j -> j < k -> j + bY l j <= k
 | N, [], p, hN, h => ⟨fun j h1 h2 => by simp at h2; omega, fun k hk => by simp [bG] at hk⟩
 | 0, t :: ts, p, hN, h => by have := t.cV; simp only [Tre.cO, eU] at hN; omega
 | N + 1, t :: ts, p, hN, h => by
   have qO := gK t
   have nA := t.cV
   simp only [Tre.cO, eU] at hN ⊢
   have h1 := s9 N t.kids (p + 1) (by omega) h.head.kids
   have h2 := s9 N ts (p + t.flat.length) (by omega) h.tail
   have hp := my h.head
   refine ⟨fun j a b => ?_, fun k hk j a b => ?_⟩
   · by_cases e : j = p
     · rw [e, hp]; omega
     · by_cases c : j < p + t.flat.length
       · have := h1.1 j (by omega) (by omega); omega
       · have := h2.1 j (by omega) (by omega); omega
   · simp only [bG, dS] at hk
     rcases hk with rfl | hk
     · omega
     · have fJ := sg hk
       by_cases e : j = p
       · rw [e, hp]; omega
       · by_cases c : j < p + t.flat.length
         · have := h1.1 j (by omega) (by omega); omega
         · exact h2.2 k hk j (by omega) b
theorem Nw {l : List Nd} {p i : Nat} : ∀ {m : Nat}, i <= m -> (∀ j, i < j -> j <= m -> j + bY l j <= p) -> (i = 0 \/ p < i + bY l i) -> lI l p m = i
 | 0, hi, h1, h2 => by simp [lI]; omega
 | m + 1, hi, h1, h2 => by
   rw [lI]
   by_cases e : i = m + 1
   · subst e
     rw [if_neg]
     rcases h2 with h2 | h2 <;> omega
   · rw [if_pos (h1 (m + 1) (by omega) (cX _))]
     exact Nw (by omega) (fun j a b => h1 j a (by omega)) h2
theorem EM {l : List Nd} {p : Nat} : ∀ m, lI l p m <= m
 | 0 => cX _
 | m + 1 => by
   rw [lI]; split
   · have := EM (l := l) (p := p) m; omega
   · exact cX _
theorem VR {l : List Nd} {i k : Nat} {s : Tre} (h : eQ l i s) (hk : k ∈ bG (i + 1) s.kids) : lI l k (k - 1) = i := by
 have fJ := sg hk
 have aJ := uT hk
 have qO := gK s
 refine Nw (by omega) (fun j a b => ?_) (.inr ?_)
 · exact (s9 _ s.kids (i + 1) (cX _) h.kids).2 k hk j (by omega) (by omega)
 · rw [my h]; omega
end Go.Rip
namespace Go.Rip
open Go.Proofs Go.RowKit
theorem Is (A B cs : List AV) (o : Nat) : aB (A ++ B) (A.length + o) cs = A ++ aB B o cs := by
 simp only [aB, List.take_append, List.drop_append, nI]
 rw [o7 (by omega), List.drop_of_length_le (by omega), show A.length + o - A.length = o by omega, show A.length + o + cs.length - A.length = o + cs.length by omega, ik]
theorem Ez {l : List Nd} {i o : Nat} {x y : Nd} {c : AV} (hx : l[i]? = some x) (hc : ∀ C : List AV, aB (bO x ++ C) o [c] = bO y ++ C) : aB (bC l) (i * 6 + o) [c] = bC (l.set i y) := by
 have aJ := (dF.1 hx).1
 have JF := (dF.1 hx).2
 have e : l = l.take i ++ x :: l.drop (i + 1) := by rw [<- JF, <- gy aJ, List.take_append_drop]
 have hl : (l.take i).length = i := by simp; omega
 have e2 : l.set i y = l.take i ++ y :: l.drop (i + 1) := by
  rw [List.set_eq_take_append_cons_drop, if_pos aJ]
 have e3 : bC l = bC (l.take i) ++ (bO x ++ bC (l.drop (i + 1))) := by
  conv => lhs; rw [e]
  simp [bC]
 rw [e2, e3, show i * 6 + o = (bC (l.take i)).length + o by rw [fo, hl]; omega, Is, hc]
 simp [bC]
section
variable {v : AV} {l : List Nd}
theorem WM {U : St} {R : cD -> St -> Prop} {p : Int} {g : FuncId} {fs cs : List AV} (hv : Sl v l) (hl : l.length <= 10000) (iW : ∀ x ∈ l, x.text.length <= 3000) (hg : eg K.P g = true)
 (h0 : gI l p ≠ 0 -> ∀ ae, cL U ae -> R (.ret (.aR [.agg [.al], .int .i64 (gI l p)])) ae)
 (h1 : gI l p = 0 -> ∀ ae b6, cL U ae -> U.live b6 = none -> ae.box b6 = some [.al] -> af K g (fs ++ [.agg [v]] ++ cs) ae fun r τ => ∃ x e, r = .ret (.aR [.agg [x], .int .i64 e]) /\ x.cQ = true /\ ay x = [x] /\ τ.box b6 = some [.al] /\
   (e ≠ 0 -> ∀ jl, (∀ b y, b ≠ b6 -> τ.box b = some y -> jl.box b = some y) -> R (.ret (.aR [.agg [.al], .int .i64 e])) jl) /\ (e = 0 -> ∀ z1 z2, R (.ret (.aR [.agg [x], .int .i64 0])) ((τ.set b6 (.box z1)).set b6 (.box z2)))) : af K 87 [.agg [v], .int .i64 p, .func (.func g) fs cs] U R := by
 refine Px ?_
 unfold Rf
 rw [ff rfl]
 intro b1 eH
 have m1 : (U.new b1 (.box (ay (.agg [v])))).box b1 = some [v] := aN
 have e1 := bE eH (x := .box (ay (.agg [v])))
 generalize U.new b1 _ = aG at *
 rw [cN]
 intro b6 nX
 have m6 : (aG.new b6 (.box [AV.al])).box b6 = some [.al] := aN
 have m1 := (bE nX (x := .box [AV.al])).bj m1
 have f6 := e1.fresh nX.1
 have e6 := e1.new nX (x := .box [AV.al])
 generalize aG.new b6 _ = bJ at *
 have bad : ∀ e : Int, e = gI l p -> gI l p ≠ 0 -> (ao (some (true, 1)) (.box b6 0) bJ).wp K bJ (fun bS U => (aL (some (true, 1)) (.box b6 0) bS U).wp K U (fun _ U => br (some (true, 1)) (.box b6 0) U fun r0 => ak R (AV.aR [r0, .int .i64 e]) U) (aa R)) (aa R) := by
  intro e he hn
  subst he
  refine lJ m6 ?_
  rw [cI m6]
  refine ⟨⟨rfl, rfl, by simp⟩, ?_⟩
  rw [lF aT]
  exact ⟨by simp [aB], ak.mk (h0 hn _ (e6.set f6))⟩
 refine lJ m1 ((za hv.s hv.c hl iW).go ?_)
 rw [cM, ah]
 by_cases hc : fi l = 0
 rotate_left
 · simp only [hc, ct, dt]
   exact cR (bad _ (CY hc).symm (by rw [CY hc]; exact hc))
 simp only [hc, bT, ca]
 refine dQ (pW (eP m1 rfl ?_))
 rw [hv.s.len, ah, dU, dC, wp_cond, ah]
 refine ⟨aS (by omega) (by omega), P8 ?_⟩
 simp only [c8, ah]
 by_cases hp : 0 <= p /\ p <= (l.length : Int) - 1
 rotate_left
 · simp only [hp, ct, dt]
   have := NU hc hp
   exact cR (bad 3 this.symm (by rw [this]; decide))
 simp only [hp, and_self, bT, ca]
 refine dQ (lJ m1 (oQ [v] rfl ?_))
 rw [Xe hg]
 refine (h1 (RL hc hp) bJ b6 e6 f6 m6).mono fun r τ hr => ?_
 obtain ⟨x, e, rfl, hx1, hx2, m6, h2, h3⟩ := hr
 simp only [bA, cz, List.drop, bM]
 rw [cI m6]
 refine ⟨⟨rfl, rfl, by simp⟩, ?_⟩
 have B2 : (τ.set b6 (.box (aB [AV.al] 0 (ay (.agg [x]))))).box b6 = some [x] := by rw [aT]; rfl
 rw [cM, ah]
 by_cases he : e = 0
 · simp only [he, bT, ca]
   refine dQ (lJ B2 ?_)
   rw [cI B2]
   refine ⟨⟨rfl, rfl, by simp⟩, ?_⟩
   rw [lF aT]
   refine ⟨by simp [aB], ak.mk ?_⟩
   exact h3 he _ _
 · simp only [he, ct, dt]
   refine cR ?_
   rw [cN]
   intro b8 ou
   have m8 : ((τ.set b6 (.box (aB [AV.al] 0 (ay (.agg [x]))))).new b8 (.box [AV.al])).box b8 = some [.al] := aN
   have aa0 := (bE ou (x := .box [AV.al])).bj B2
   refine lJ m8 ?_
   rw [cI aa0]
   refine ⟨⟨rfl, rfl, by simp⟩, ?_⟩
   rw [lF aT]
   refine ⟨by simp [aB], ak.mk (h2 he _ fun b y hb hy => ?_)⟩
   rw [aP hb]
   refine (bE ou (x := .box [AV.al])).bj ?_
   rw [aP hb]; exact hy
end
end Go.Rip
namespace Go.Rip
open Go.Proofs Go.RowKit
theorem nest {t : Tre} {j k : Nat} (hk : k < t.flat.length) (xQ : j < k) : j + bY t.flat j <= k \/ k + bY t.flat k <= j + bY t.flat j := by
 obtain ⟨⟨s, _, hs, _⟩, _⟩ := place t (i := j) (by omega)
 have dD := my hs
 have qO := gK s
 by_cases h : j + s.flat.length <= k
 · left; omega
 · right
   have := (s9 _ s.kids (j + 1) (cX _) hs.kids).1 k (by omega) (by omega)
   omega
def jC (p i : Nat) (d : Int) (j : Nat) (x : Nd) : Nd := if i <= j /\ p < j + x.size.toNat /\ j < p then { x with size := x.size + d } else x
def fZ (l : List Nd) (p i : Nat) (d : Int) : List Nd := l.mapIdx fun j x => jC p i d j x
theorem iz (l : List Nd) (p i : Nat) (d : Int) : (fZ l p i d).length = l.length := by simp [fZ]
theorem oa {l : List Nd} {p i j : Nat} {d : Int} {x : Nd} (h : l[j]? = some x) : (fZ l p i d)[j]? = some (jC p i d j x) := by
 unfold fZ
 rw [List.getElem?_mapIdx, h]; rfl
theorem Ih {t : Tre} {p c : Nat} {d : Int} (hp : p < t.flat.length) (hc : c <= p) (h0 : 0 < c) (zw : c = p \/ p < c + bY t.flat c) {x : Nd} (hx : t.flat[lI t.flat c (c - 1)]? = some x) :
 (fZ t.flat p c d).set (lI t.flat c (c - 1)) { x with size := x.size + d } = fZ t.flat p (lI t.flat c (c - 1)) d /\ p < lI t.flat c (c - 1) + bY t.flat (lI t.flat c (c - 1)) /\ lI t.flat c (c - 1) < c /\ (fZ t.flat p c d)[lI t.flat c (c - 1)]? = some x := by
 have hle := EM (l := t.flat) (p := c) (c - 1)
 have UY : c < t.flat.length := by omega
 obtain ⟨_, oS⟩ := place t UY
 obtain ⟨i', s', iu, dL, hm⟩ := oS.resolve_left (by omega)
 have hu := VR dL hm
 have fJ := sg hm
 have sB := uT hm
 have qO := gK s'
 have dD := my dL
 generalize hq : lI t.flat c (c - 1) = q at *
 subst hu
 have aap : c < q + bY t.flat q := by omega
 have hxs := sd hx
 have Gq : p < q + bY t.flat q := by
  rcases zw with rfl | h
  · exact aap
  · rcases nest UY (show q < c by omega) with h1 | h1 <;> omega
 have Cw : (fZ t.flat p c d)[q]? = some x := by
  rw [oa hx]; unfold jC; rw [if_neg (by omega)]
 refine ⟨?_, Gq, by omega, Cw⟩
 refine List.ext_getElem? fun j => ?_
 rw [List.getElem?_set]
 by_cases hj : q = j
 · subst hj
   rw [if_pos rfl, if_pos (by rw [iz]; omega), oa hx]
   unfold jC
   rw [if_pos ⟨cX _, by omega, by omega⟩]
 · rw [if_neg hj]
   cases hy : t.flat[j]? with
   | none =>
     have h1 : t.flat.length <= j := List.getElem?_eq_none_iff.1 hy
     rw [mN (by rw [iz]; exact h1), mN (by rw [iz]; exact h1)]
   | some y =>
     rw [oa hy, oa hy]
     have ZT := sd hy
     have : jC p c d j y = jC p q d j y := by
      unfold jC
      by_cases h1 : c <= j /\ p < j + y.size.toNat /\ j < p
      · rw [if_pos h1, if_pos ⟨by omega, h1.2⟩]
      · by_cases h2 : q <= j /\ p < j + y.size.toNat /\ j < p
        · exfalso
          have hjc : j < c := by omega
          have ZI : q < j := by omega
          have := (s9 _ s'.kids (q + 1) (cX _) dL.kids).2 c hm j (by omega) hjc
          omega
        · rw [if_neg h1, if_neg h2]
     rw [this]
def ek (l : List Nd) (p : Nat) (ns : List Nd) : List Nd := ((fZ l p 0 ((ns.length : Int) - bY l p)).take p) ++ ns ++ l.drop (p + bY l p)
noncomputable def eK (l : List Nd) (p : Int) (ns : List Nd) : List Nd × Int := if gI l p ≠ 0 then ([], gI l p) else if fi (ek l p.toNat ns) ≠ 0 then ([], fi (ek l p.toNat ns)) else (ek l p.toNat ns, 0)
theorem Ig (l : List Nd) (p : Nat) (d : Int) : fZ l p p d = l := by
 refine List.ext_getElem? fun j => ?_
 cases hy : l[j]? with
 | none => rw [mN (by rw [iz]; exact List.getElem?_eq_none_iff.1 hy)]
 | some y =>
   rw [oa hy]
   unfold jC
   rw [if_neg (by omega)]
end Go.Rip
namespace Go.Rip
open Go.Proofs Go.RowKit
def IE (U : St) (v : AV) (l : List Nd) : Prop := (l = [] /\ v = .al) \/ ∃ b, v = .ms b 0 l.length 6 43 /\ U.box b = some (bC l)
theorem Oo {U : St} {R : cD -> St -> Prop} {n : Nat} (hn : n <= 65536) (h0 : n = 0 -> R (.ret .al) U) (h1 : n ≠ 0 -> ∀ b L, U.cY b -> R (.ret (.ms b 0 0 6 43)) (U.new b (.box L))) : af K 157 [.al, .int .i64 (n : Nat)] U R := by
 refine LN ?_
 unfold LM
 intro j hj
 rw [bg, ah]
 refine dk (fun h => by omega) fun _ => hj _ _ _ ?_
 intro j1 qQ
 rw [show vJ (some (43, 6)) AV.al = .val (.int .i64 0) from rfl, ah, show bz (some false) AV.al = .val (.int .i64 0) from rfl, ah, dU, dC, wp_cond, ah]
 refine ⟨aS (by decide) (by decide), ?_⟩
 rw [dU, dC, wp_cond, ah]
 refine ⟨aS (by omega) (by omega), ?_⟩
 rw [dK, ah]
 refine dk (fun h => ?_) fun h => ?_
 · rw [ah]
   rw [show dx false (some (43, 6)) AV.al none (some (.int .i64 0)) = .cond ((0 : Int) = 0 /\ (0 : Int) = 0) (.val .al) from rfl, wp_cond, ah]
   refine ⟨⟨rfl, rfl⟩, ?_⟩
   have Vn : ((n : Int) - (0 - 0)) = n := by omega
   rw [Vn]
   simp only [w8, if_true, wp_cond]
   refine ⟨⟨by omega, by omega⟩, fun b hb => ?_⟩
   show (au.val (AV.int .i64 0)).wp K _ _ _
   rw [ah]
   show (dx false (some (43, 6)) (AV.ms b 0 (n : Int).toNat 6 43) none (some (.int .i64 0))).wp K _ _ _
   simp only [dx, eV, fD, wp_cond, ah]
   refine ⟨⟨by omega, by omega, by omega, by omega, trivial⟩, qQ _ _ (ak.mk ?_)⟩
   exact h1 (by omega) b _ hb
 · exact qQ _ _ (ak.mk (h0 (by omega)))
theorem IT {U : St} {R : cD -> St -> Prop} {x1 x2 x3 : AV} {l1 l2 l3 : List Nd} (h1 : eh x1 l1.length (bC l1)) (h2 : eh x2 l2.length (bC l2)) (h3 : eh x3 l3.length (bC l3)) (hl : l1.length + l2.length + l3.length <= 60000)
 (h : ∀ ae v, cL U ae -> (∀ b, v = .ms b 0 (l1 ++ l2 ++ l3).length 6 43 -> U.live b = none) -> IE ae v (l1 ++ l2 ++ l3) -> R (.ret v) ae) : af K 95 [.vec 3 .full [x1, x2, x3]] U R := by
 refine Pz ?_
 unfold Ri
 rw [show bz (some false) (AV.vec 3 .full [x1, x2, x3]) = .val (.int .i64 3) from rfl, ah]
 have hx : ∀ i, i < 3 -> ∃ x l r, [x1, x2, x3].drop i = x :: r /\ [l1, l2, l3][i]? = some l /\ eh x l.length (bC l) /\ l.length <= 60000 := by
  intro i hi
  match i, hi with
  | 0, _ => exact ⟨x1, l1, _, rfl, rfl, h1, by omega⟩
  | 1, _ => exact ⟨x2, l2, _, rfl, rfl, h2, by omega⟩
  | 2, _ => exact ⟨x3, l3, _, rfl, rfl, h3, by omega⟩
 have DJ : ∀ i, (([l1, l2, l3].take i).map List.length).sum <= 60000 := by
  intro i
  match i with
  | 0 => simp
  | 1 => simp; omega
  | 2 => simp; omega
  | n + 3 => simp; omega
 refine ⟨fun m v0 v3 v9 v10 v11 ae => ∃ i : Nat, m = 3 - i /\ i <= 3 /\ v0 = .vec 3 .full [x1, x2, x3] /\ v3 = .int .i64 ((([l1, l2, l3].take i).map List.length).sum : Nat) /\ v9 = .vec 3 .full [x1, x2, x3] /\ v10 = .int .i64 3 /\ v11 = .int .i64 (i : Nat) /\ ae = U, ⟨_, 0, rfl, by omega, rfl, rfl, rfl, rfl, rfl, rfl⟩, ?_⟩
 rintro m v0 v3 v9 v10 v11 ae ⟨i, rfl, hi, rfl, rfl, rfl, rfl, rfl, rfl⟩
 rw [bg, ah]
 refine dk (fun aJ => ?_) fun fJ => ?_
 · have aJ : i < 3 := by omega
   intro j hj
   obtain ⟨x, l, r, hd, rI, mX, Dv⟩ := hx i aJ
   rw [wR, dR, Nat.mul_one, hd]
   refine ⟨by omega, ?_⟩
   rw [mg, bM, mX.len, ah, cg]
   have rM := DJ i
   refine ⟨aS (by omega) (by omega), ?_⟩
   rw [bg, ah]
   refine dk (fun h => by omega) fun _ => hj _ _ _ _ _ _ ?_
   show (aj .add (BT.mk false false false none false) true (AV.int .i64 (i : Nat)) (AV.int .i64 1)).wp K _ _ _
   rw [cg]
   refine ⟨aS (by omega) (by omega), 3 - (i + 1), by omega, i + 1, rfl, by omega, rfl, ?_, rfl, rfl, by simp, rfl⟩
   rw [nH, rI]
   simp
 · have Va : i = 3 := by omega
   subst Va
   have Yu : (([l1, l2, l3].take 3).map List.length).sum = (l1 ++ l2 ++ l3).length := by simp
   rw [Yu]
   have bm : ∀ (i : Nat), ((([l1, l2, l3].take i).flatten).length <= 60000) := by
    intro i
    have := DJ i
    rw [List.length_flatten]; exact this
   have qO : ([l1, l2, l3].take 3).flatten = l1 ++ l2 ++ l3 := by simp
   have loop : ∀ (v6 : AV) (bJ : St), cL ae bJ -> (((l1 ++ l2 ++ l3).length = 0 /\ v6 = .al) \/ ∃ b L, v6 = .ms b 0 0 6 43 /\ bJ.box b = some L /\ ae.live b = none) ->
    (bz (some false) (AV.vec 3 .full [x1, x2, x3])).wp K bJ (fun dE U =>
    cK 4 [v6, AV.vec 3 .full [x1, x2, x3], dE, (AV.int .i64 0)] U fun o4 v6 dO Ah di U =>
     (aj .lss (BT.mk false false false none false) false di Ah).wp K U (fun v28 U =>
     aq v28 (
      (aF (some (23, 1)) none dO di).wp K U (fun cC U =>
      (ao (some (false, 1)) cC U).wp K U (fun v30 U =>
      (dM (some (43, 6)) true v6 v30 U).wp K U (fun dP U =>
      (aj .add (BT.mk false false false none false) true di (AV.int .i64 1)).wp K U (fun eI U =>
      o4 dP dO Ah eI U) (aa R)) (aa R)) (aa R)) (aa R)) (
      ak R v6 U)) (aa R)) (aa R) := by
    intro v6 bJ e1 hv6
    rw [show bz (some false) (AV.vec 3 .full [x1, x2, x3]) = .val (.int .i64 3) from rfl, ah]
    refine ⟨fun m w6 w25 w26 w27 bP => ∃ i : Nat, m = 3 - i /\ i <= 3 /\ w25 = .vec 3 .full [x1, x2, x3] /\ w26 = .int .i64 3 /\ w27 = .int .i64 (i : Nat) /\ cL ae bP /\ (((l1 ++ l2 ++ l3).length = 0 /\ w6 = .al) \/ ∃ b L, w6 = .ms b 0 (([l1, l2, l3].take i).flatten).length 6 43 /\ bP.box b = some L /\ L.take ((([l1, l2, l3].take i).flatten).length * 6) = bC (([l1, l2, l3].take i).flatten) /\ (i ≠ 0 -> L = bC (([l1, l2, l3].take i).flatten)) /\ ae.live b = none),
     ⟨_, 0, rfl, by omega, rfl, rfl, rfl, e1, ?_⟩, ?_⟩
    · rcases hv6 with h | ⟨b, L, h1, h2, h3⟩
      · exact .inl h
      · exact .inr ⟨b, L, h1, h2, by simp [bC], fun h => absurd rfl h, h3⟩
    rintro m w6 w25 w26 w27 bP ⟨i, rfl, hi, rfl, rfl, rfl, e2, VE⟩
    rw [bg, ah]
    refine dk (fun aJ => ?_) fun fJ => ?_
    · have aJ : i < 3 := by omega
      obtain ⟨x, l, r, hd, rI, mX, Dv⟩ := hx i aJ
      have oT : ([l1, l2, l3].take (i + 1)).flatten = ([l1, l2, l3].take i).flatten ++ l := by rw [nH, rI]; simp
      have Gf := bm (i + 1)
      rw [wR, dR, Nat.mul_one, hd]
      refine ⟨by omega, ?_⟩
      rw [mg, bM]
      rcases VE with ⟨hz, rfl⟩ | ⟨b, L, rfl, hb, hL, _, zq⟩
      · have lD : l.length = 0 := by
         have : ([l1, l2, l3].take 3).flatten.length = 0 := by rw [qO]; exact hz
         simp at this
         match i, aJ with
         | 0, _ => cases rI; simp [this.1]
         | 1, _ => cases rI; simp [this.2.1]
         | 2, _ => cases rI; simp [this.2.2]
        refine EV mX.yz.src (fo l ▸ by omega) (by omega) (fun _ => ?_) (fun h => absurd lD h) (fun h => absurd lD h)
        rw [cg]
        exact ⟨aS (by omega) (by omega), 3 - (i + 1), by omega, i + 1, rfl, by omega, rfl, rfl, by simp, e2, .inl ⟨hz, rfl⟩⟩
      · have hLl : (([l1, l2, l3].take i).flatten).length * 6 <= L.length := by
         have := congrArg List.length hL
         rw [List.length_take, fo] at this; omega
        rw [oT, eU] at Gf
        refine NF (l2 := bC l) hb mX.yz.src ⟨fo l ▸ by omega, hLl, by omega⟩ fun b' dm => ?_
        rw [cg]
        have e3 : cL ae (bP.del b) := e2.del zq
        refine ⟨aS (by omega) (by omega), 3 - (i + 1), by omega, i + 1, rfl, by omega, rfl, rfl, by simp, e3.new dm, .inr ⟨b', bC (([l1, l2, l3].take i).flatten ++ l), ?_, ?_, ?_, ?_, e3.fresh dm.1⟩⟩
        · rw [oT, eU]
        · rw [aN, hL, px]
        · rw [oT, o7 (by rw [fo]; omega)]
        · intro _; rw [oT]
    · have Va : i = 3 := by omega
      subst Va
      rw [qO] at VE
      refine ak.mk ?_
      rcases VE with ⟨hz, rfl⟩ | ⟨b, L, rfl, hb, _, hL, zq⟩
      · exact h _ _ e2 (fun b e => by cases e) (.inl ⟨oH.1 hz, rfl⟩)
      · exact h _ _ e2 (fun b' e => by cases e; exact zq) (.inr ⟨b, rfl, by rw [hb, hL (by decide)]⟩)
   refine Oo (by have := bm 3; rw [qO] at this; omega) (fun hz => ?_) (fun hnz b L hb => ?_)
   · rw [bA]; exact loop _ _ (cL.refl _) (.inl ⟨hz, rfl⟩)
   · rw [bA]; exact loop _ _ (bE hb) (.inr ⟨b, L, rfl, aN, hb.1⟩)
end Go.Rip
