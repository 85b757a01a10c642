/- Lemmas for the proof: no conditions. -/
import Derived.Test.YtnfpmiiopiinbaaGreatDoorRipZz
import Derived.Test.YtnfpmiiopiinbaaGreatDoorRipYb
set_option linter.unusedVariables false
set_option linter.unusedSimpArgs false
set_option linter.loopingSimpArgs false
namespace Go.Rip
open Go.Proofs Go.RowKit
theorem qw : ∀ {ts : List Tre} {p k : Nat}, k ∈ cK p ts -> p <= k
 | [], p, k, h => by simp [cK] at h
 | t :: ts, p, k, h => by
   simp only [cK, dA] at h
   rcases h with rfl | h
   · exact cG _
   · have := qw h; omega
theorem tb : ∀ {ts : List Tre} {p k : Nat}, k ∈ cK p ts -> k < p + (Tre.bg ts).length
 | [], p, k, h => by simp [cK] at h
 | t :: ts, p, k, h => by
   simp only [cK, dA] at h
   have := t.cV
   simp only [Tre.cE, ep]
   rcases h with rfl | h
   · omega
   · have := tb h; omega
theorem jG {l : List Nd} {i : Nat} {s : Tre} (h : eZ l i s) : a8 l i = s.flat.length := by
 obtain ⟨x, hx, _, hs, _⟩ := h.mE
 rw [mA hx]; omega
theorem rm {l : List Nd} : ∀ (N : Nat) (ts : List Tre) (p : Nat), (Tre.bg ts).length <= N -> js l p ts ->
 (∀ j, p <= j -> j < p + (Tre.bg ts).length -> j + a8 l j <= p + (Tre.bg ts).length) /\ ∀ k ∈ cK p ts, ∀ j, p <= j -> j < k -> j + a8 l j <= k
 | N, [], p, hN, h => ⟨fun j h1 h2 => by simp at h2; omega, fun k hk => by simp [cK] at hk⟩
 | 0, t :: ts, p, hN, h => by have := t.cV; simp only [Tre.cE, ep] at hN; omega
 | N + 1, t :: ts, p, hN, h => by
   have rB := iD t
   have jy := t.cV
   simp only [Tre.cE, ep] at hN ⊢
   have h1 := rm N t.kids (p + 1) (by omega) h.head.kids
   have h2 := rm N ts (p + t.flat.length) (by omega) h.tail
   have hp := jG h.head
   refine ⟨fun j a b => ?_, fun k hk j a b => ?_⟩
   · by_cases e : j = p
     · rw [e, hp]; omega
     · by_cases c : j < p + t.flat.length
       · have := h1.1 j (by omega) (by omega); omega
       · have := h2.1 j (by omega) (by omega); omega
   · simp only [cK, dA] at hk
     rcases hk with rfl | hk
     · omega
     · have hY := qw hk
       by_cases e : j = p
       · rw [e, hp]; omega
       · by_cases c : j < p + t.flat.length
         · have := h1.1 j (by omega) (by omega); omega
         · exact h2.2 k hk j (by omega) b
theorem K6 {l : List Nd} {p i : Nat} : ∀ {m : Nat}, i <= m -> (∀ j, i < j -> j <= m -> j + a8 l j <= p) -> (i = 0 \/ p < i + a8 l i) -> kn l p m = i
 | 0, hi, h1, h2 => by simp [kn]; omega
 | m + 1, hi, h1, h2 => by
   rw [kn]
   by_cases e : i = m + 1
   · subst e
     rw [if_neg]
     rcases h2 with h2 | h2 <;> omega
   · rw [if_pos (h1 (m + 1) (by omega) (cG _))]
     exact K6 (by omega) (fun j a b => h1 j a (by omega)) h2
theorem De {l : List Nd} {p : Nat} : ∀ m, kn l p m <= m
 | 0 => cG _
 | m + 1 => by
   rw [kn]; split
   · have := De (l := l) (p := p) m; omega
   · exact cG _
theorem SL {l : List Nd} {i k : Nat} {s : Tre} (h : eZ l i s) (hk : k ∈ cK (i + 1) s.kids) : kn l k (k - 1) = i := by
 have hY := qw hk
 have aK := tb hk
 have rB := iD s
 refine K6 (by omega) (fun j a b => ?_) (.inr ?_)
 · exact (rm _ s.kids (i + 1) (cG _) h.kids).2 k hk j (by omega) (by omega)
 · rw [jG h]; omega
end Go.Rip
namespace Go.Rip
open Go.Proofs Go.RowKit
theorem GQ (A B cs : List AV) (o : Nat) : aw (A ++ B) (A.length + o) cs = A ++ aw B o cs := by
 simp only [aw, List.take_append, List.drop_append, kf]
 rw [qR (by omega), List.drop_of_length_le (by omega), show A.length + o - A.length = o by omega, show A.length + o + cs.length - A.length = o + cs.length by omega, gH]
theorem C4 {l : List Nd} {i o : Nat} {x y : Nd} {c : AV} (hx : l[i]? = some x) (hc : ∀ C : List AV, aw (bD x ++ C) o [c] = bD y ++ C) : aw (bm l) (i * 6 + o) [c] = bm (l.set i y) := by
 have aK := (dx.1 hx).1
 have Ie := (dx.1 hx).2
 have e : l = l.take i ++ x :: l.drop (i + 1) := by rw [<- Ie, <- gp aK, List.take_append_drop]
 have hl : (l.take i).length = i := by simp; omega
 have e2 : l.set i y = l.take i ++ y :: l.drop (i + 1) := by
  rw [List.set_eq_take_append_cons_drop, if_pos aK]
 have e3 : bm l = bm (l.take i) ++ (bD x ++ bm (l.drop (i + 1))) := by
  conv => lhs; rw [e]
  simp [bm]
 rw [e2, e3, show i * 6 + o = (bm (l.take i)).length + o by rw [eS, hl]; omega, GQ, hc]
 simp [bm]
section
variable {v : AV} {l : List Nd}
theorem TF {U : St} {R : cu -> St -> Prop} {p : Int} {g : FuncId} {fs cs : List AV} (hv : Sl v l) (hl : l.length <= 10000) (fY : ∀ x ∈ l, x.text.length <= 3000) (hg : dj K.P g = true)
 (h0 : gA l p ≠ 0 -> ∀ ad, cm U ad -> R (.ret (.aN [.agg [.ag], .int .i64 (gA l p)])) ad)
 (h1 : gA l p = 0 -> ∀ ad b6, cm U ad -> U.live b6 = none -> ad.box b6 = some [.ag] -> ae K g (fs ++ [.agg [v]] ++ cs) ad fun r τ => ∃ x e, r = .ret (.aN [.agg [x], .int .i64 e]) /\ x.cC = true /\ au x = [x] /\ τ.box b6 = some [.ag] /\
   (e ≠ 0 -> ∀ jN, (∀ b y, b ≠ b6 -> τ.box b = some y -> jN.box b = some y) -> R (.ret (.aN [.agg [.ag], .int .i64 e])) jN) /\ (e = 0 -> ∀ z1 z2, R (.ret (.aN [.agg [x], .int .i64 0])) ((τ.set b6 (.box z1)).set b6 (.box z2)))) : ae K 87 [.agg [v], .int .i64 p, .func (.func g) fs cs] U R := by
 refine MQ ?_
 unfold OL
 rw [eC rfl]
 intro b1 fC
 have m1 : (U.new b1 (.box (au (.agg [v])))).box b1 = some [v] := aD
 have e1 := bj fC (x := .box (au (.agg [v])))
 generalize U.new b1 _ = ay at *
 rw [cw]
 intro b6 nv
 have m6 : (ay.new b6 (.box [AV.ag])).box b6 = some [.ag] := aD
 have m1 := (bj nv (x := .box [AV.ag])).bf m1
 have f6 := e1.fresh nv.1
 have e6 := e1.new nv (x := .box [AV.ag])
 generalize ay.new b6 _ = bH at *
 have bad : ∀ e : Int, e = gA l p -> gA l p ≠ 0 -> (aq (some (true, 1)) (.box b6 0) bH).wp K bH (fun cL U => (aF (some (true, 1)) (.box b6 0) cL U).wp K U (fun _ U => bA (some (true, 1)) (.box b6 0) U fun r0 => al R (AV.aN [r0, .int .i64 e]) U) (aa R)) (aa R) := by
  intro e he hn
  subst he
  refine iV m6 ?_
  rw [cF m6]
  refine ⟨⟨rfl, rfl, by simp⟩, ?_⟩
  rw [nV aR]
  exact ⟨by simp [aw], al.mk (h0 hn _ (e6.set f6))⟩
 refine iV m1 ((oQ hv.s hv.c hl fY).go ?_)
 rw [cO, ah]
 by_cases hc : dI l = 0
 rotate_left
 · simp only [hc, dz, dR]
   exact dq (bad _ (se hc).symm (by rw [se hc]; exact hc))
 simp only [hc, cX, cq]
 refine dF (tj (eW m1 rfl ?_))
 rw [hv.s.len, ah, dP, db, wp_cond, ah]
 refine ⟨aX (by omega) (by omega), Dq ?_⟩
 simp only [dt, ah]
 by_cases hp : 0 <= p /\ p <= (l.length : Int) - 1
 rotate_left
 · simp only [hp, dz, dR]
   have := Bu hc hp
   exact dq (bad 3 this.symm (by rw [this]; decide))
 simp only [hp, and_self, cX, cq]
 refine dF (iV m1 (pc [v] rfl ?_))
 rw [Lf hg]
 refine (h1 (yR hc hp) bH b6 e6 f6 m6).mono fun r τ hr => ?_
 obtain ⟨x, e, rfl, hx1, hx2, m6, h2, h3⟩ := hr
 simp only [bz, bL, List.drop, bB]
 rw [cF m6]
 refine ⟨⟨rfl, rfl, by simp⟩, ?_⟩
 have Au : (τ.set b6 (.box (aw [AV.ag] 0 (au (.agg [x]))))).box b6 = some [x] := by rw [aR]; rfl
 rw [cO, ah]
 by_cases he : e = 0
 · simp only [he, cX, cq]
   refine dF (iV Au ?_)
   rw [cF Au]
   refine ⟨⟨rfl, rfl, by simp⟩, ?_⟩
   rw [nV aR]
   refine ⟨by simp [aw], al.mk ?_⟩
   exact h3 he _ _
 · simp only [he, dz, dR]
   refine dq ?_
   rw [cw]
   intro b8 mL
   have m8 : ((τ.set b6 (.box (aw [AV.ag] 0 (au (.agg [x]))))).new b8 (.box [AV.ag])).box b8 = some [.ag] := aD
   have YB := (bj mL (x := .box [AV.ag])).bf Au
   refine iV m8 ?_
   rw [cF YB]
   refine ⟨⟨rfl, rfl, by simp⟩, ?_⟩
   rw [nV aR]
   refine ⟨by simp [aw], al.mk (h2 he _ fun b y hb hy => ?_)⟩
   rw [aE hb]
   refine (bj mL (x := .box [AV.ag])).bf ?_
   rw [aE hb]; exact hy
end
end Go.Rip
namespace Go.Rip
open Go.Proofs Go.RowKit
theorem nest {t : Tre} {j k : Nat} (hk : k < t.flat.length) (Sb : j < k) : j + a8 t.flat j <= k \/ k + a8 t.flat k <= j + a8 t.flat j := by
 obtain ⟨⟨s, _, hs, _⟩, _⟩ := place t (i := j) (by omega)
 have da := jG hs
 have rB := iD s
 by_cases h : j + s.flat.length <= k
 · left; omega
 · right
   have := (rm _ s.kids (j + 1) (cG _) hs.kids).1 k (by omega) (by omega)
   omega
def gY (p i : Nat) (d : Int) (j : Nat) (x : Nd) : Nd := if i <= j /\ p < j + x.size.toNat /\ j < p then { x with size := x.size + d } else x
def gy (l : List Nd) (p i : Nat) (d : Int) : List Nd := l.mapIdx fun j x => gY p i d j x
theorem fG (l : List Nd) (p i : Nat) (d : Int) : (gy l p i d).length = l.length := by simp [gy]
theorem kN {l : List Nd} {p i j : Nat} {d : Int} {x : Nd} (h : l[j]? = some x) : (gy l p i d)[j]? = some (gY p i d j x) := by
 unfold gy
 rw [List.getElem?_mapIdx, h]; rfl
theorem GH {t : Tre} {p c : Nat} {d : Int} (hp : p < t.flat.length) (hc : c <= p) (h0 : 0 < c) (xR : c = p \/ p < c + a8 t.flat c) {x : Nd} (hx : t.flat[kn t.flat c (c - 1)]? = some x) :
 (gy t.flat p c d).set (kn t.flat c (c - 1)) { x with size := x.size + d } = gy t.flat p (kn t.flat c (c - 1)) d /\ p < kn t.flat c (c - 1) + a8 t.flat (kn t.flat c (c - 1)) /\ kn t.flat c (c - 1) < c /\ (gy t.flat p c d)[kn t.flat c (c - 1)]? = some x := by
 have hle := De (l := t.flat) (p := c) (c - 1)
 have RV : c < t.flat.length := by omega
 obtain ⟨_, mM⟩ := place t RV
 obtain ⟨i', s', gK, dw, hm⟩ := mM.resolve_left (by omega)
 have hu := SL dw hm
 have hY := qw hm
 have zd := tb hm
 have rB := iD s'
 have da := jG dw
 generalize hq : kn t.flat c (c - 1) = q at *
 subst hu
 have X0 : c < q + a8 t.flat q := by omega
 have hxs := mA hx
 have Ey : p < q + a8 t.flat q := by
  rcases xR with rfl | h
  · exact X0
  · rcases nest RV (show q < c by omega) with h1 | h1 <;> omega
 have vu : (gy t.flat p c d)[q]? = some x := by
  rw [kN hx]; unfold gY; rw [if_neg (by omega)]
 refine ⟨?_, Ey, by omega, vu⟩
 refine List.ext_getElem? fun j => ?_
 rw [List.getElem?_set]
 by_cases hj : q = j
 · subst hj
   rw [if_pos rfl, if_pos (by rw [fG]; omega), kN hx]
   unfold gY
   rw [if_pos ⟨cG _, by omega, by omega⟩]
 · rw [if_neg hj]
   cases hy : t.flat[j]? with
   | none =>
     have h1 : t.flat.length <= j := List.getElem?_eq_none_iff.1 hy
     rw [mb (by rw [fG]; exact h1), mb (by rw [fG]; exact h1)]
   | some y =>
     rw [kN hy, kN hy]
     have W7 := mA hy
     have : gY p c d j y = gY p q d j y := by
      unfold gY
      by_cases h1 : c <= j /\ p < j + y.size.toNat /\ j < p
      · rw [if_pos h1, if_pos ⟨by omega, h1.2⟩]
      · by_cases h2 : q <= j /\ p < j + y.size.toNat /\ j < p
        · exfalso
          have hjc : j < c := by omega
          have WX : q < j := by omega
          have := (rm _ s'.kids (q + 1) (cG _) dw.kids).2 c hm j (by omega) hjc
          omega
        · rw [if_neg h1, if_neg h2]
     rw [this]
def dc (l : List Nd) (p : Nat) (ns : List Nd) : List Nd := ((gy l p 0 ((ns.length : Int) - a8 l p)).take p) ++ ns ++ l.drop (p + a8 l p)
noncomputable def eP (l : List Nd) (p : Int) (ns : List Nd) : List Nd × Int := if gA l p ≠ 0 then ([], gA l p) else if dI (dc l p.toNat ns) ≠ 0 then ([], dI (dc l p.toNat ns)) else (dc l p.toNat ns, 0)
theorem GG (l : List Nd) (p : Nat) (d : Int) : gy l p p d = l := by
 refine List.ext_getElem? fun j => ?_
 cases hy : l[j]? with
 | none => rw [mb (by rw [fG]; exact List.getElem?_eq_none_iff.1 hy)]
 | some y =>
   rw [kN hy]
   unfold gY
   rw [if_neg (by omega)]
end Go.Rip
namespace Go.Rip
open Go.Proofs Go.RowKit
def Hk (U : St) (v : AV) (l : List Nd) : Prop := (l = [] /\ v = .ag) \/ ∃ b, v = .ms b 0 l.length 6 43 /\ U.box b = some (bm l)
theorem LN {U : St} {R : cu -> St -> Prop} {n : Nat} (hn : n <= 65536) (h0 : n = 0 -> R (.ret .ag) U) (h1 : n ≠ 0 -> ∀ b L, U.cB b -> R (.ret (.ms b 0 0 6 43)) (U.new b (.box L))) : ae K 157 [.ag, .int .i64 (n : Nat)] U R := by
 refine JN ?_
 unfold JM
 intro j hj
 rw [bP, ah]
 refine ir (fun h => by omega) fun _ => hj _ _ _ ?_
 intro j1 tE
 rw [show tX (some (43, 6)) AV.ag = .val (.int .i64 0) from rfl, ah, show bU (some false) AV.ag = .val (.int .i64 0) from rfl, ah, dP, db, wp_cond, ah]
 refine ⟨aX (by decide) (by decide), ?_⟩
 rw [dP, db, wp_cond, ah]
 refine ⟨aX (by omega) (by omega), ?_⟩
 rw [eO, ah]
 refine ir (fun h => ?_) fun h => ?_
 · rw [ah]
   rw [show dh false (some (43, 6)) AV.ag none (some (.int .i64 0)) = .cond ((0 : Int) = 0 /\ (0 : Int) = 0) (.val .ag) from rfl, wp_cond, ah]
   refine ⟨⟨rfl, rfl⟩, ?_⟩
   have Sq : ((n : Int) - (0 - 0)) = n := by omega
   rw [Sq]
   simp only [vr, if_true, wp_cond]
   refine ⟨⟨by omega, by omega⟩, fun b hb => ?_⟩
   show (aA.val (AV.int .i64 0)).wp K _ _ _
   rw [ah]
   show (dh false (some (43, 6)) (AV.ms b 0 (n : Int).toNat 6 43) none (some (.int .i64 0))).wp K _ _ _
   simp only [dh, eT, eJ, wp_cond, ah]
   refine ⟨⟨by omega, by omega, by omega, by omega, trivial⟩, tE _ _ (al.mk ?_)⟩
   exact h1 (by omega) b _ hb
 · exact tE _ _ (al.mk (h0 (by omega)))
theorem Hy {U : St} {R : cu -> St -> Prop} {x1 x2 x3 : AV} {l1 l2 l3 : List Nd} (h1 : eN x1 l1.length (bm l1)) (h2 : eN x2 l2.length (bm l2)) (h3 : eN x3 l3.length (bm l3)) (hl : l1.length + l2.length + l3.length <= 60000)
 (h : ∀ ad v, cm U ad -> (∀ b, v = .ms b 0 (l1 ++ l2 ++ l3).length 6 43 -> U.live b = none) -> Hk ad v (l1 ++ l2 ++ l3) -> R (.ret v) ad) : ae K 95 [.vec 3 .full [x1, x2, x3]] U R := by
 refine MV ?_
 unfold OQ
 rw [show bU (some false) (AV.vec 3 .full [x1, x2, x3]) = .val (.int .i64 3) from rfl, ah]
 have hx : ∀ i, i < 3 -> ∃ x l r, [x1, x2, x3].drop i = x :: r /\ [l1, l2, l3][i]? = some l /\ eN x l.length (bm l) /\ l.length <= 60000 := by
  intro i hi
  match i, hi with
  | 0, _ => exact ⟨x1, l1, _, rfl, rfl, h1, by omega⟩
  | 1, _ => exact ⟨x2, l2, _, rfl, rfl, h2, by omega⟩
  | 2, _ => exact ⟨x3, l3, _, rfl, rfl, h3, by omega⟩
 have Ch : ∀ i, (([l1, l2, l3].take i).map List.length).sum <= 60000 := by
  intro i
  match i with
  | 0 => simp
  | 1 => simp; omega
  | 2 => simp; omega
  | n + 3 => simp; omega
 refine ⟨fun m v0 v3 v9 v10 v11 ad => ∃ i : Nat, m = 3 - i /\ i <= 3 /\ v0 = .vec 3 .full [x1, x2, x3] /\ v3 = .int .i64 ((([l1, l2, l3].take i).map List.length).sum : Nat) /\ v9 = .vec 3 .full [x1, x2, x3] /\ v10 = .int .i64 3 /\ v11 = .int .i64 (i : Nat) /\ ad = U, ⟨_, 0, rfl, by omega, rfl, rfl, rfl, rfl, rfl, rfl⟩, ?_⟩
 rintro m v0 v3 v9 v10 v11 ad ⟨i, rfl, hi, rfl, rfl, rfl, rfl, rfl, rfl⟩
 rw [bP, ah]
 refine ir (fun aK => ?_) fun hY => ?_
 · have aK : i < 3 := by omega
   intro j hj
   obtain ⟨x, l, r, hd, qe, py, B4⟩ := hx i aK
   rw [Dp, eG, Nat.mul_one, hd]
   refine ⟨by omega, ?_⟩
   rw [ox, bB, py.len, ah, c8]
   have tF := Ch i
   refine ⟨aX (by omega) (by omega), ?_⟩
   rw [bP, ah]
   refine ir (fun h => by omega) fun _ => hj _ _ _ _ _ _ ?_
   show (av .add (BT.mk false false false none false) true (AV.int .i64 (i : Nat)) (AV.int .i64 1)).wp K _ _ _
   rw [c8]
   refine ⟨aX (by omega) (by omega), 3 - (i + 1), by omega, i + 1, rfl, by omega, rfl, ?_, rfl, rfl, by simp, rfl⟩
   rw [sW, qe]
   simp
 · have R8 : i = 3 := by omega
   subst R8
   have VF : (([l1, l2, l3].take 3).map List.length).sum = (l1 ++ l2 ++ l3).length := by simp
   rw [VF]
   have bK : ∀ (i : Nat), ((([l1, l2, l3].take i).flatten).length <= 60000) := by
    intro i
    have := Ch i
    rw [List.length_flatten]; exact this
   have rB : ([l1, l2, l3].take 3).flatten = l1 ++ l2 ++ l3 := by simp
   have loop : ∀ (v6 : AV) (bH : St), cm ad bH -> (((l1 ++ l2 ++ l3).length = 0 /\ v6 = .ag) \/ ∃ b L, v6 = .ms b 0 0 6 43 /\ bH.box b = some L /\ ad.live b = none) ->
    (bU (some false) (AV.vec 3 .full [x1, x2, x3])).wp K bH (fun eY U =>
    dQ 4 [v6, AV.vec 3 .full [x1, x2, x3], eY, (AV.int .i64 0)] U fun wY v6 dW th dB U =>
     (av .lss (BT.mk false false false none false) false dB th).wp K U (fun v28 U =>
     az v28 (
      (aP (some (23, 1)) none dW dB).wp K U (fun dO U =>
      (aq (some (false, 1)) dO U).wp K U (fun v30 U =>
      (dS (some (43, 6)) true v6 v30 U).wp K U (fun fj U =>
      (av .add (BT.mk false false false none false) true dB (AV.int .i64 1)).wp K U (fun fQ U =>
      wY fj dW th fQ U) (aa R)) (aa R)) (aa R)) (aa R)) (
      al R v6 U)) (aa R)) (aa R) := by
    intro v6 bH e1 hv6
    rw [show bU (some false) (AV.vec 3 .full [x1, x2, x3]) = .val (.int .i64 3) from rfl, ah]
    refine ⟨fun m w6 XF XG XH bJ => ∃ i : Nat, m = 3 - i /\ i <= 3 /\ XF = .vec 3 .full [x1, x2, x3] /\ XG = .int .i64 3 /\ XH = .int .i64 (i : Nat) /\ cm ad bJ /\ (((l1 ++ l2 ++ l3).length = 0 /\ w6 = .ag) \/ ∃ b L, w6 = .ms b 0 (([l1, l2, l3].take i).flatten).length 6 43 /\ bJ.box b = some L /\ L.take ((([l1, l2, l3].take i).flatten).length * 6) = bm (([l1, l2, l3].take i).flatten) /\ (i ≠ 0 -> L = bm (([l1, l2, l3].take i).flatten)) /\ ad.live b = none),
     ⟨_, 0, rfl, by omega, rfl, rfl, rfl, e1, ?_⟩, ?_⟩
    · rcases hv6 with h | ⟨b, L, h1, h2, h3⟩
      · exact .inl h
      · exact .inr ⟨b, L, h1, h2, by simp [bm], fun h => absurd rfl h, h3⟩
    rintro m w6 XF XG XH bJ ⟨i, rfl, hi, rfl, rfl, rfl, e2, SA⟩
    rw [bP, ah]
    refine ir (fun aK => ?_) fun hY => ?_
    · have aK : i < 3 := by omega
      obtain ⟨x, l, r, hd, qe, py, B4⟩ := hx i aK
      have pA : ([l1, l2, l3].take (i + 1)).flatten = ([l1, l2, l3].take i).flatten ++ l := by rw [sW, qe]; simp
      have BQ := bK (i + 1)
      rw [Dp, eG, Nat.mul_one, hd]
      refine ⟨by omega, ?_⟩
      rw [ox, bB]
      rcases SA with ⟨hz, rfl⟩ | ⟨b, L, rfl, hb, hL, _, xL⟩
      · have oI : l.length = 0 := by
         have : ([l1, l2, l3].take 3).flatten.length = 0 := by rw [rB]; exact hz
         simp at this
         match i, aK with
         | 0, _ => cases qe; simp [this.1]
         | 1, _ => cases qe; simp [this.2.1]
         | 2, _ => cases qe; simp [this.2.2]
        refine Di py.uC.src (eS l ▸ by omega) (by omega) (fun _ => ?_) (fun h => absurd oI h) (fun h => absurd oI h)
        rw [c8]
        exact ⟨aX (by omega) (by omega), 3 - (i + 1), by omega, i + 1, rfl, by omega, rfl, rfl, by simp, e2, .inl ⟨hz, rfl⟩⟩
      · have ZL : (([l1, l2, l3].take i).flatten).length * 6 <= L.length := by
         have := congrArg List.length hL
         rw [List.length_take, eS] at this; omega
        rw [pA, ep] at BQ
        refine Dj (l2 := bm l) hb py.uC.src ⟨eS l ▸ by omega, ZL, by omega⟩ fun b' cZ => ?_
        rw [c8]
        have e3 : cm ad (bJ.del b) := e2.del xL
        refine ⟨aX (by omega) (by omega), 3 - (i + 1), by omega, i + 1, rfl, by omega, rfl, rfl, by simp, e3.new cZ, .inr ⟨b', bm (([l1, l2, l3].take i).flatten ++ l), ?_, ?_, ?_, ?_, e3.fresh cZ.1⟩⟩
        · rw [pA, ep]
        · rw [aD, hL, DU]
        · rw [pA, qR (by rw [eS]; omega)]
        · intro _; rw [pA]
    · have R8 : i = 3 := by omega
      subst R8
      rw [rB] at SA
      refine al.mk ?_
      rcases SA with ⟨hz, rfl⟩ | ⟨b, L, rfl, hb, _, hL, xL⟩
      · exact h _ _ e2 (fun b e => by cases e) (.inl ⟨pK.1 hz, rfl⟩)
      · exact h _ _ e2 (fun b' e => by cases e; exact xL) (.inr ⟨b, rfl, by rw [hb, hL (by decide)]⟩)
   refine LN (by have := bK 3; rw [rB] at this; omega) (fun hz => ?_) (fun hnz b L hb => ?_)
   · rw [bz]; exact loop _ _ (cm.refl _) (.inl ⟨hz, rfl⟩)
   · rw [bz]; exact loop _ _ (bj hb) (.inr ⟨b, L, rfl, aD, hb.1⟩)
end Go.Rip
