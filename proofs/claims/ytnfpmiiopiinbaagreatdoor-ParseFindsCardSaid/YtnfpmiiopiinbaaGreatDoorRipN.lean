/- Lemmas for the proof: no conditions. -/
import Derived.Test.YtnfpmiiopiinbaaGreatDoorRipZz
import Derived.Test.YtnfpmiiopiinbaaGreatDoorRipM
import Derived.Test.YtnfpmiiopiinbaaGreatDoorRipF
import Derived.Test.YtnfpmiiopiinbaaGreatDoorRipG
import Derived.Test.YtnfpmiiopiinbaaGreatDoorRipH
import Derived.Test.YtnfpmiiopiinbaaGreatDoorRipE
set_option linter.unusedVariables false
set_option linter.unusedSimpArgs false
set_option linter.loopingSimpArgs false
namespace Go.Rip
open Go.RowKit
structure Rx where
 L : List Tk
 E : Nat
 tv : AV
 tr : eB tv L.length (gy L)
 ok : ∀ t ∈ L, qh t
 small : L.length <= 900
def rd (X : Rx) (i : Nat) : List AV := [X.tv, .int .i64 i, .int .i64 X.E, DG, sB]
def Fw (X : Rx) (i : Nat) : AV := .iface 136 (.agg [.int .i64 (eL X.L X.E i)])
theorem eB.len {v : AV} {n : Nat} {cs : List AV} (h : eB v n cs) : bB (some false) v = .val (.int .i64 n) := by
 rcases h with ⟨rfl, rfl, rfl⟩ | ⟨c, rfl⟩ <;> rfl
theorem eB.at {v : AV} {n : Nat} {cs : List AV} (h : eB v n cs) {sz e j : Nat} (hj : j < n) : ∃ c, v = .vec n c cs /\ aG (some (e, sz)) none v (.int .i64 (j : Int)) = .cond (0 <= (j : Int) /\ (j : Int) < n) (.val (.cj (cs.drop (j * sz)))) := by
 rcases h with ⟨rfl, rfl, rfl⟩ | ⟨c, rfl⟩
 · omega
 · exact ⟨c, rfl, by simp⟩
theorem wU : ∀ i, closed (K.u6 i) = true := fun i => by
 show closed (if i = 0 then .cj su else if i = 7 then .cj sU else .any) = true
 split
 · kernel_rfl
 · split
   · kernel_rfl
   · rfl
theorem Pure.of {f : Nat} {args : List AV} {x : AV} (hargs : bU args = true) (hx : closed x = true) (hr : ∀ U, resolve 5 U x = x)
 (h : ∀ R : cB -> St -> Prop, (∀ ae, R (.ret x) ae) -> af K f args (bD ⟨.e, 0⟩) R) : Pure K f args x :=
 Pure.wz wU hargs hx 5 (h _ fun ae => ⟨x, rfl, hr ae⟩)
def idx (l : List bf) (s : bf) : Int := match l.findIdx? (· = s) with | some i => i | none => -1
theorem G4 (c : iV) (l : List bf) (s : bf) (hn : l.length <= 100000) : Pure K 230 [.vec l.length c (l.map .str), .str s] (.int .i64 (idx l s)) := by
 intro U R hR
 refine Ml ?_
 simp only [Mj, oG, ai]
 refine ⟨fun m v0 v1 v7 v8 ae => ∃ i : Nat, m = l.length - i /\ i <= l.length /\ v0 = .vec l.length c (l.map .str) /\ v1 = .str s /\ v7 = .int .i64 l.length /\ v8 = .int .i64 i /\ ae = U /\ ∀ j, j < i -> l[j]? ≠ some s, ⟨l.length, 0, by simp [Fn.app]⟩, ?_⟩
 intro m v0 v1 v7 v8 ae hI
 obtain ⟨i, rfl, hi, rfl, rfl, rfl, rfl, rfl, eV⟩ := hI
 simp only [bj, ai, aX]
 refine ⟨fun aJ => ?_, fun fZ => ?_⟩
 · have aJ : i < l.length := by omega
   have hd : (l.map AV.str).drop (i * 1) = .str l[i] :: (l.map AV.str).drop (i + 1) := by
    rw [Nat.mul_one, fN (by simpa using aJ)]; simp
   simp only [uH, wp_cond, ai, ej, hd, rp, dt, gb, aX]
   refine ⟨by omega, fun he => ?_, fun bQ => ?_⟩
   · refine aj.eq hR ?_
     have : l.findIdx? (· = s) = some i := by
      rw [DL]
      refine ⟨aJ, by simp [he], fun j hj => ?_⟩
      have := eV j hj
      rw [iZ (by omega)] at this
      simpa using this
     simp [idx, this]
   · simp only [js, er, wp_cond, ai]
     refine ⟨aZ (by omega) (by omega), ?_⟩
     refine ⟨l.length - (i + 1), by omega, i + 1, rfl, by omega, rfl, rfl, rfl, by simp, rfl, fun j hj => ?_⟩
     · rcases eD j i with h | h
       · exact eV j h
       · have : j = i := by omega
         subst this
         rw [iZ aJ]; simpa using fun h => bQ h.symm
 · refine aj.eq hR ?_
   have : l.findIdx? (· = s) = none := by
    rw [List.findIdx?_eq_none_iff]
    intro x hx
    obtain ⟨j, hj, rfl⟩ := List.getElem_of_mem hx
    have := eV j (by omega)
    rw [iZ hj] at this
    simpa using this
   simp [idx, this]
section
variable {X : Rx} {r i : Nat} {U : St} {R : cB -> St -> Prop}
theorem DH (hr : U.box r = some (rd X i)) (h : R (.ret (.int .i64 (eL X.L X.E i))) U) : af K 164 [.box r 0] U R := by
 refine Ln ?_
 simp only [Lm, dk, aw, aU, ld hr, rd, List.drop, dt, X.tr.len, bj, aX, ai, ck]
 refine ⟨fun aJ => ?_, fun fZ => ?_⟩
 · have aJ : i < X.L.length := by omega
   obtain ⟨c, hv, kJ⟩ := X.tr.at (sz := 3) (e := 51) aJ
   obtain ⟨t, ht⟩ : ∃ t, X.L[i]? = some t := ⟨X.L[i], by simp [aJ]⟩
   obtain ⟨rest, hd⟩ := Ao ht
   simp only [kJ, gG, aw, hd, dr, rp, mP, jV, jA, List.drop, dt]
   refine ⟨by omega, aj.mk ?_⟩
   have : eL X.L X.E i = t.at_ := by simp [eL, ht]
   rw [<- this]; exact h
 · refine aj.mk ?_
   have : eL X.L X.E i = X.E := by simp [eL, oK (show X.L.length <= i by omega)]
   rw [<- this]; exact h
def ow : Option Tk -> List AV
 | some t => mP t
 | none => [.int .u8 0, .str [], .int .i64 0]
theorem nq (hr : U.box r = some (rd X i)) (hi : i <= X.L.length) (k : Nat) (hk : k <= 10) (h : ∀ ae, cJ U ae -> R (.ret (.agg (ow X.L[i + k]?))) ae) : af K 167 [.box r 0, .int .i64 k] U R := by
 refine Lr ?_
 have hs := X.small
 simp only [Lq, lV]
 intro b hb
 have U5 := hb.bZ hr
 have C4 : (U.new b (.box [AV.int .u8 0, AV.str [], AV.int .i64 0])).box r = some (rd X i) := by rw [lX U5]; exact hr
 have dC : (U.new b (.box [AV.int .u8 0, AV.str [], AV.int .i64 0])).box b = some [AV.int .u8 0, AV.str [], AV.int .i64 0] := aL
 simp only [NV.at, dk, aw, aU, ld C4, rd, List.drop, dt, X.tr.len, js, er, gG, bj, aX, ai, ck]
 refine ⟨aZ (by omega) (by omega), fun aJ => ?_, fun fZ => ?_⟩
 · have aJ : i + k < X.L.length := by omega
   obtain ⟨c, hv, kJ⟩ := X.tr.at (sz := 3) (e := 51) aJ
   obtain ⟨t, ht⟩ : ∃ t, X.L[i + k]? = some t := ⟨X.L[i + k], by simp [aJ]⟩
   obtain ⟨rest, hd⟩ := Ao ht
   rw [<- Int.natCast_add]
   simp only [kJ, gG, aw, hd, Hn, vT dC, wp_cond, jr]
   refine ⟨aZ (by omega) (by omega), by omega, by simp [mP], by simp [mP], ?_⟩
   rw [rX (Jp (aS) 3 0)]
   refine ⟨by simp [aA, mP], ?_⟩
   refine aj.eq (h _ (((cJ.refl U).new hb).set hb.1)) ?_
   simp [aA, mP, ht, ow]
 · simp only [c7, eK, ai, vT dC, wp_cond, jr]
   refine ⟨by simp, ?_⟩
   rw [rX (Jp (aS) 3 0)]
   refine ⟨by simp [aA], ?_⟩
   refine aj.eq (h _ (((cJ.refl U).new hb).set hb.1)) ?_
   simp [aA, oK (show X.L.length <= i + k by omega), ow]
def rZ (o : Option Tk) (l : List bf) : Bool := match o with
 | some t => (t.k == 3 || t.k == 4) && decide (t.s ∈ l)
 | none => false
theorem G3 (l : List bf) (s : bf) : decide (0 <= idx l s) = decide (s ∈ l) := by
 unfold idx
 split
 · rename_i j hj
   obtain ⟨h1, h2, _⟩ := DL.1 hj
   have : s ∈ l := by have := of_decide_eq_true h2; exact this ▸ qN h1
   simp [this]
 · rename_i hj
   rw [List.findIdx?_eq_none_iff] at hj
   have : s ∉ l := fun hm => by simpa using hj s hm
   simp [this]
theorem BH (c : iV) (l : List bf) (s : bf) (hn : l.length <= 100000) : Pure K 178 [.vec l.length c (l.map .str), .str s] (.bool (decide (s ∈ l))) := by
 intro U R hR
 refine Lx ?_
 refine (G4 c l s hn).go ?_
 simp only [dR, ai]
 refine aj.eq hR ?_
 rw [G3]
theorem xK {c : iV} (o : Option Tk) (l : List bf) (hn : l.length <= 100000) (h : ∀ ae, cJ U ae -> R (.ret (.bool (rZ o l))) ae) : af K 121 [.agg (ow o), .vec l.length c (l.map .str)] U R := by
 refine Kg ?_
 have hl : ∃ k s a, ow o = [.int .u8 k, .str s, .int .i64 a] /\ rZ o l = ((decide (k = 3) || decide (k = 4)) && decide (s ∈ l)) := by
  cases o with
  | none => exact ⟨0, [], 0, rfl, rfl⟩
  | some t => exact ⟨t.k, t.s, t.at_, rfl, by
     have e : ∀ m : Nat, (t.k == m) = decide ((t.k : Int) = (m : Int)) := fun m => by
      rw [lL]; simp; omega
     simp only [rZ, e 3, e 4]; rfl⟩
 obtain ⟨k, s, a, e1, e2⟩ := hl
 rw [e1]
 simp only [Kf, AE _ (N1 _), wp_cond, true_and, Ia, lV]
 intro b_ hb
 have dC : (U.new b_ (.box [.int .u8 k, .str s, .int .i64 a])).box b_ = some [.int .u8 k, .str s, .int .i64 a] := aL
 have hx := h _ ((cJ.refl U).new (x := .box [.int .u8 k, .str s, .int .i64 a]) hb)
 rw [e2] at hx
 simp only [NV.at, aU, ai, ld dC, List.drop, dt, aW, aI, aB, jl, ck]
 have IM := BH c l s hn
 have step : ∀ b : Bool, ((decide (k = 3) || decide (k = 4)) && decide (s ∈ l)) = b -> aj R (.bool b) (U.new b_ (.box [.int .u8 k, .str s, .int .i64 a])) := fun b e => by subst e; exact aj.mk hx
 by_cases h3 : k = 3
 · subst h3
   simp [ld dC]
   exact ⟨_, IM, step _ (by simp)⟩
 · by_cases h4 : k = 4
   · subst h4
     simp [ld dC]
     exact ⟨_, IM, step _ (by simp)⟩
   · simp [ld dC, h3, h4]
     exact step _ (by simp [h3, h4])
theorem Ey (s w : bf) : decide (s ∈ [w]) = (s == w) := by
 by_cases h : s = w
 · simp [h]
 · simp [h]
theorem wA (L : List Tk) (i : Nat) (w : bf) : rZ L[i]? [w] = cF L i w := by
 unfold rZ cF
 split
 · rename_i t ht; rw [ht, Ey]
 · rename_i ht; rw [ht]
theorem Ha {c : iV} (hr : U.box r = some (rd X i)) (hi : i <= X.L.length) (l : List bf) (hn : l.length <= 100000) (h : ∀ ae, cJ U ae -> R (.ret (.bool (rZ X.L[i]? l))) ae) : af K 105 [.box r 0, .vec l.length c (l.map .str)] U R := by
 refine Kb ?_
 refine nq hr hi 0 (by omega) fun bJ e1 => ?_
 refine xK (X.L[i]?) l hn fun bX e2 => ?_
 exact aj.mk (h _ (e1.trans e2))
theorem Dt (hr : U.box r = some (rd X i)) (hi : i <= X.L.length) (w : bf)
 (h1 : cF X.L i w = true -> ∀ ae, eQ r (rd X (i + 1)) U ae -> R (.ret (.bool true)) ae) (h2 : cF X.L i w = false -> ∀ ae, cJ U ae -> R (.ret (.bool false)) ae) : af K 100 [.box r 0, .str w] U R := by
 refine J6 ?_
 have hs := X.small
 simp only [J5, aP, eK, AG, N3, bL, wp_cond, ai, aA, List.take, List.drop, jA, jV, jU]
 refine ⟨by omega, by simp, by simp, ?_⟩
 refine Ha (l := [w]) hr hi (by simp) fun bJ e1 => ?_
 have C4 := e1.bo hr
 simp only [bu, cU, ai, wA]
 cases hw : cF X.L i w with
 | false => simp only [da, bh]; exact aj.mk (h2 hw _ e1)
 | true =>
   simp only [bV, aV, dk, ai, aU, ld C4, rd, List.drop, dt, ck, js, er, wp_cond, vT C4, jr]
   refine ⟨aZ (by omega) (by omega), by simp, aj.mk (h1 hw _ ⟨?_, (e1.Io (r := r)).set (.inr rfl)⟩)⟩
   rw [aS]; simp [aA, rd]
theorem Fu (hr : U.box r = some (rd X i)) (h : R (.panic (Fw X i)) U) : af K 166 [.box r 0] U R := by
 refine Lp ?_
 refine DH hr ?_
 simp only [bu, c7, eK, AF, N2, wp_cond, ai, aA, tO, if_true, qK, Pw]
 refine ⟨by simp, ?_⟩
 exact h
theorem z7 (hr : U.box r = some (rd X i)) (hi : i <= X.L.length) (w : bf)
 (h1 : cI X.L w i = .ok () (i + 1) -> i + 1 <= X.L.length -> ∀ ae, eQ r (rd X (i + 1)) U ae -> R (.ret (.aQ [])) ae) (h2 : cI X.L w i = .bad i -> ∀ ae, eQ r (rd X i) U ae -> R (.panic (Fw X i)) ae) : af K 102 [.box r 0, .str w] U R := by
 refine J8 ?_
 refine Dt hr hi w (fun hw bJ a1 => ?_) (fun hw bJ e1 => ?_)
 · simp only [bu, cU, ai, bV, aV]
   exact aj.mk (h1 (by simp [cI, hw]) (dh hw) _ a1)
 · simp only [bu, cU, ai, da, bh]
   exact Fu (e1.bo hr) (h2 (by simp [cI, hw]) _ (.pF hr e1))
theorem rH (o : Option Tk) : ∃ k : Int, ∃ s a, ow o = [.int .u8 k, .str s, .int .i64 a] /\ (∀ m : Nat, 0 < m -> (k = (m : Int) ↔ ∃ t, o = some t /\ t.k = m /\ t.s = s)) := by
 cases o with
 | none => exact ⟨0, [], 0, rfl, fun m hm => ⟨fun h => by omega, fun ⟨t, h, _⟩ => by cases h⟩⟩
 | some t => exact ⟨t.k, t.s, t.at_, rfl, fun m hm => ⟨fun h => ⟨t, rfl, by omega, rfl⟩, fun ⟨u, h, h2, h3⟩ => by cases h; omega⟩⟩
theorem JM (hr : U.box r = some (rd X i)) (hi : i <= X.L.length) (k : Nat) (hk : 0 < k)
 (h1 : ∀ t, X.L[i]? = some t -> t.k = k -> i + 1 <= X.L.length -> ∀ ae, eQ r (rd X (i + 1)) U ae -> R (.ret (.str t.s)) ae) (h2 : (∀ t, X.L[i]? = some t -> t.k ≠ k) -> ∀ ae, eQ r (rd X i) U ae -> R (.panic (Fw X i)) ae) : af K 165 [.box r 0, .int .u8 k] U R := by
 refine Lo ?_
 have hs := X.small
 refine nq hr hi 0 (by omega) fun bJ e1 => ?_
 have C4 := e1.bo hr
 obtain ⟨m, s, a, e, hm⟩ := rH X.L[i + 0]?
 rw [e]
 simp only [bu, lV]
 intro b hb
 have U5 := hb.bZ C4
 have e2 := e1.new (x := .box [AV.int .u8 0, AV.str [], AV.int .i64 0]) hb
 have dC : (bJ.new b (.box [AV.int .u8 0, AV.str [], AV.int .i64 0])).box b = some [AV.int .u8 0, AV.str [], AV.int .i64 0] := aL
 simp only [NV.at, vT dC, wp_cond, jr]
 refine ⟨by simp, ?_⟩
 have e3 := e2.set (x := .box (aA [AV.int .u8 0, AV.str [], AV.int .i64 0] 0 (ax (.agg [.int .u8 m, .str s, .int .i64 a])))) (e1.fresh hb.1)
 generalize ln : (bJ.new b (.box [AV.int .u8 0, AV.str [], AV.int .i64 0])).set b (.box (aA [AV.int .u8 0, AV.str [], AV.int .i64 0] 0 (ax (.agg [.int .u8 m, .str s, .int .i64 a])))) = cE at e3 ⊢
 have jN : cE.box b = some [.int .u8 m, .str s, .int .i64 a] := by rw [<- ln, aS]; rfl
 have xe := e3.bo hr
 intro j hj
 simp only [aU, ai, ld jN, List.drop, dt, ck, ct, ao, Bool.not_eq_true', decide_eq_false_iff_not, Bool.not_eq_false', cP]
 refine ⟨fun bQ => ?_, fun heq => ?_⟩
 · refine Fu xe ?_
   exact h2 (fun t ht he => bQ ((hm k hk).2 ⟨t, ht, he, by rw [Nat.add_zero, ht] at e; cases e; rfl⟩)) _ (.pF hr e3)
 · obtain ⟨t, ht, nE, sI⟩ := (hm k hk).1 heq
   have aJ := (dm.1 ht).1
   refine hj _ _ _ ?_
   simp only [dk, ai, aU, ld xe, rd, List.drop, dt, ck, js, er, wp_cond, vT xe, jr]
   refine ⟨aZ (by omega) (by omega), by simp, ?_⟩
   rw [jr]
   generalize Dc : cE.set r _ = cW
   have jk : cW.box b = some [.int .u8 m, .str s, .int .i64 a] := by rw [<- Dc, aN (Ne.symm U5)]; exact jN
   have hr4 : cW.box r = some (rd X (i + 1)) := by rw [<- Dc, aS]; simp [aA, rd]
   have e4 : hX r U cW := by rw [<- Dc]; exact (e3.Io (r := r)).set (.inr rfl)
   simp only [ld jk, List.drop, dt, ai]
   refine aj.mk ?_
   rw [<- sI]
   exact h1 t ht nE aJ _ ⟨hr4, e4⟩
theorem RL (hr : U.box r = some (rd X i)) (hi : i <= X.L.length)
 (h1 : ∀ x, iU X.L i = .ok x (i + 1) -> i + 1 <= X.L.length -> ∀ ae, eQ r (rd X (i + 1)) U ae -> R (.ret (.str x)) ae) (h2 : iU X.L i = .bad i -> ∀ ae, eQ r (rd X i) U ae -> R (.panic (Fw X i)) ae) : af K 101 [.box r 0] U R := by
 refine J7 ?_
 refine JM hr hi 1 (by omega) (fun t ht hk hl bJ a1 => ?_) (fun hn bJ a1 => ?_)
 · exact aj.mk (h1 t.s (by simp [iU, ht, hk]) hl _ a1)
 · refine h2 ?_ _ a1
   unfold iU
   split
   · rename_i t ht; rw [if_neg (hn t ht)]
   · rfl
end
end Go.Rip
namespace Go.Rip
open Go.Proofs Go.RowKit
theorem Pure.JK {f : FuncId} {args : List AV} {vs : List Value} {x : AV} {v : Value} (hargs : ∀ g us, aD g args us -> us = vs) (hx : ∀ g, ay g x v)
 (h : ∀ w, Calls K.P f vs.toArray w fun e w' => e = .returned v /\ w.grownBy w' none) : Pure K f args x := by
 intro U R hR g w us hs hG ha
 have := hargs g us ha
 subst this
 refine callsIn_wide.2 ((h w).mono fun e w' ⟨h1, h2⟩ => ?_)
 subst h1
 exact ⟨g, U, x, Gh.Le.refl g, hs.grow h2, hx g, hR⟩
theorem Et (w : World) (e : TypeId) (s : ByteArray) : w.grownBy (Lib.bytesWorld w e s) none := by
 have bQ : ∀ q, q < w.heap.size -> w.heap.size ≠ q := fun q h => by omega
 unfold Lib.bytesWorld World.freeze
 split
 · exact ⟨rfl, rfl, rfl, by simp [World.alloc, World.drew, -World.alloc_eq, -World.drew_eq], fun q hq _ => by simp [World.alloc, World.drew, -World.alloc_eq, -World.drew_eq, Array.getElem?_push, Nat.ne_of_lt hq]⟩
 · refine ⟨rfl, rfl, rfl, by simp [World.alloc, World.drew, -World.alloc_eq, -World.drew_eq], fun q hq _ => ?_⟩
   simp [World.alloc, World.drew, -World.alloc_eq, -World.drew_eq, Array.getElem?_modify, Array.getElem?_push, bQ q hq, Nat.ne_of_lt hq]
theorem HZ (s : bf) (h0 : s ≠ []) (h : iD s = 0) : Pure K 218 [.str s] (.aQ [.int .i64 (tq s), .cN]) := by
 obtain ⟨h1, h2, _⟩ := JH h0 h
 refine Pure.JK (vs := [.string ⟨s.toArray⟩]) (v := .tuple #[.int .i64 (tq s), .nilIface]) (fun g us hr => Oj hr) (fun g => by simp [ay, aD]) fun w => ?_
 refine (Tryz.strconv_Atoi ⟨s.toArray⟩ (tq s) (by show s.toArray.size <= 18; simp; omega) (Nc h0 (F2 h).1) w).mono fun e w' ⟨he, t, hw⟩ => ⟨he, ?_⟩
 subst hw
 exact Et _ _ _
section
variable {X : Rx} {r i : Nat} {U : St} {R : cB -> St -> Prop}
theorem JI (hr : U.box r = some (rd X i)) (hi : i <= X.L.length)
 (h1 : ∀ x, kr X.L i = .ok x (i + 1) -> i + 1 <= X.L.length -> ∀ ae, eQ r (rd X (i + 1)) U ae -> R (.ret (.int .i64 x)) ae) (h2 : kr X.L i = .bad i -> ∀ ae, eQ r (rd X i) U ae -> R (.panic (Fw X i)) ae) : af K 168 [.box r 0] U R := by
 refine Ls ?_
 refine JM hr hi 2 (by omega) (fun t ht hk hl bJ a1 => ?_) (fun hn bJ a1 => ?_)
 · have cD := X.ok t (fi ht)
   refine (HZ t.s cD.1 (RP cD hk)).go ?_
   simp only [bR, List.drop, dt, ai, ak, if_true]
   intro j hj
   simp only [and_self, if_true, ai, aV]
   exact hj _ _ (aj.mk (h1 _ (by simp [kr, ht, hk]) hl _ a1))
 · refine h2 ?_ _ a1
   unfold kr
   split
   · rename_i t ht; rw [if_neg (hn t ht)]
   · rfl
def rk (kind : Int) (text : bf) (n m at_ : Int) (kv : AV) : List AV := [.int .u8 kind, .str text, .int .i64 n, .int .i64 m, .int .i64 at_, .int .i64 0, kv]
def Grow (U : St) (v : AV) (e : TypeId) (sz n : Nat) (l : List AV) : Prop := (n = 0 /\ l = [] /\ v = .al) \/ ∃ τ, v = .vec n (.own τ) l /\ U.tok τ = some ⟨n, e, sz⟩ /\ l.length = n * sz
def Ss (aF : St) (v : AV) : Prop := ∀ n τ l, v = .vec n (.own τ) l -> aF.live τ = none
theorem HS {e sz n m : Nat} {v y : AV} {l l2 : List AV} {K' : AV -> St -> Prop} {Kp : AV -> St -> Prop} (hg : Grow U v e sz n l) (hy : px U y = some (m, l2)) (hl : l2.length = m * sz) (hm : 0 < m) (hb : n + m <= 4294967296) (h0 : n = 0 -> v = .al)
 (h : ∀ ae v', Grow ae v' e sz (n + m) (l ++ l2) -> (∀ b x, (∀ n l, v ≠ .vec n (.own b) l) -> U.live b = some x -> ae.live b = some x) -> (∀ n τ l, v' = .vec n (.own τ) l -> U.live τ = none \/ ∃ n l, v = .vec n (.own τ) l) -> K' v' ae) : (eZ (some (e, sz)) false v y U).wp K U K' Kp := by
 rcases hg with ⟨rfl, rfl, rfl⟩ | ⟨τ, rfl, ht, IN⟩
 · have IS : m ≠ 0 := by omega
   simp only [eZ, hy, if_neg IS, bq, if_false, wp_cond]
   refine ⟨hl, by omega, fun b dQ => ?_⟩
   refine h _ _ (.inr ⟨b, by simp [NV.at], by rw [ck]; exact zp, by simp [hl]⟩) (fun c x hc hx => (bm dQ) c x hx) fun n τ l hv => ?_
   simp only [NV.at, AV.vec.injEq, iV.own.injEq] at hv
   exact .inl (hv.2.1 ▸ dQ.1)
 · have yK : n ≠ 0 := fun e => by have := h0 e; cases this
   simp only [eZ, hy, wp_cond]
   refine ⟨hl, ⟨ht, IN, hb⟩, fun b dQ => ?_⟩
   refine h _ _ (.inr ⟨b, rfl, zp, by simp [hl, IN, Nat.add_mul]⟩) (fun c x hc hx => ?_) fun n' rM l' hv => ?_
   · refine (bm dQ) c x ?_
     have bQ : c ≠ τ := fun e => hc n l (by rw [e])
     show (U.del τ).live c = some x
     rw [oH, if_neg bQ]; exact hx
   · simp only [NV.at, AV.vec.injEq, iV.own.injEq] at hv
     have hf := dQ.1
     rw [<- hv.2.1]
     by_cases e : b = τ
     · subst e; exact .inr ⟨_, _, rfl⟩
     · left
       have : (U.del τ).live b = none := hf
       rw [oH, if_neg e] at this; exact this
structure Mk (aF U : St) (r k : Nat) (kind : Int) (text : bf) (n m at_ : Int) (ks : List AV) : Prop where
 box : ∃ kv, U.box k = some (rk kind text n m at_ kv) /\ Grow U kv 87 1 ks.length ks /\ Ss aF kv /\ (ks = [] -> kv = .al)
 new : aF.live k = none
 ne : k ≠ r
inductive dY : Bool -> List AV -> List Nd -> Prop
 | mk {kind : Int} {text : bf} {n m at_ : Int} {kv : AV} {ks : List AV} {l : List Nd} : dY true ks l -> (ks = [] /\ kv = .al \/ ∃ c, kv = .vec ks.length c ks) -> dY false [.cj (rk kind text n m at_ kv)] (node kind text n m at_ l)
 | nil : dY true [] []
 | cons {a : AV} {ks : List AV} {l l' : List Nd} : dY false [a] l -> dY true ks l' -> dY true (a :: ks) (l ++ l')
theorem dY.snoc {ks : List AV} {l : List Nd} {a : AV} {l' : List Nd} (h : dY true ks l) (k : dY false [a] l') : dY true (ks ++ [a]) (l ++ l') := by
 generalize hb : true = b at h
 induction h with
 | mk _ _ _ => cases hb
 | nil => simpa using dY.cons k dY.nil
 | cons h1 h2 _ ih => rw [pw]; exact .cons h1 (ih rfl)
theorem dY.one {a : AV} {l : List Nd} (k : dY false [a] l) : dY true [a] l := by simpa using dY.cons k dY.nil
section
variable {X : Rx} {r i j k : Nat} {aF U ae : St} {R : cB -> St -> Prop} {kind : Int} {text : bf} {n m at_ : Int} {ks : List AV}
theorem Mk.gj {l : List AV} (M : Mk aF U r k kind text n m at_ ks) (a : eQ r l U ae) {l' : List AV} (hr : U.box r = some l') : Mk aF ae r k kind text n m at_ ks := by
 obtain ⟨kv, h1, h2, h3, h4⟩ := M.box
 refine ⟨⟨kv, a.ex.bo M.ne h1, ?_, h3, h4⟩, M.new, M.ne⟩
 rcases h2 with h2 | ⟨τ, e, ht, hl⟩
 · exact .inl h2
 · exact .inr ⟨τ, e, a.ex.tok (fJ hr ht).symm ht, hl⟩
theorem Mk.vT (M : Mk aF U r k kind text n m at_ ks) {o w : Nat} {v : AV} {P9 : Int} {QU : bf} {n' m' TW : Int} {K' : AV -> St -> Prop} {Kp : AV -> St -> Prop} {t : Bool}
 (hs : ∀ kv, v.cS = true /\ (ax v).length = w /\ o + w <= (rk kind text n m at_ kv).length /\ aA (rk kind text n m at_ kv) o (ax v) = rk P9 QU n' m' TW kv)
 {L : List AV} (A : eQ r L aF U)
 (h : ∀ ae, Mk aF ae r k P9 QU n' m' TW ks -> eQ r L aF ae -> K' (.aQ []) ae) : (aM (some (t, w)) (.box k o) v U).wp K U K' Kp := by
 obtain ⟨kv, h1, h2, h3, h4⟩ := M.box
 obtain ⟨s1, s2, s3, s4⟩ := hs kv
 rw [cA h1, s4]
 refine ⟨⟨s1, s2, s3⟩, h _ ⟨⟨kv, aS, ?_, h3, h4⟩, M.new, M.ne⟩ ⟨by rw [aN M.ne.symm]; exact A.box, A.ex.set (.inl M.new)⟩⟩
 rcases h2 with h2 | ⟨τ, e, ht, hl⟩
 · exact .inl h2
 · exact .inr ⟨τ, e, by rw [jo (fJ h1 ht).symm]; exact ht, hl⟩
theorem R0 (hr : U.box r = some (rd X i)) (kind : Int) (h : ∀ k ae, Mk U ae r k kind [] 0 0 (eL X.L X.E i) [] -> eQ r (rd X i) U ae -> R (.ret (.box k 0)) ae) : af K 99 [.box r 0, .int .u8 kind] U R := by
 refine OV ?_
 refine DH hr ?_
 refine nP [.int .u8 kind, .str [], .int .i64 0, .int .i64 0, .int .i64 (eL X.L X.E i), .int .i64 0] rfl ?_
 refine nP (rk kind [] 0 0 (eL X.L X.E i) .al) rfl ?_
 rw [eA rfl]
 intro b hb
 exact aj.mk (h b _ ⟨⟨_, aL, .inl ⟨rfl, rfl, rfl⟩, (fun _ _ _ e => by cases e), fun _ => rfl⟩, hb.1, (hb.bZ hr).symm⟩ (.pF hr ((cJ.refl U).new hb)))
theorem Gq {L : List AV} {mm : Nat} {c : iV} {l2 : List AV} (M : Mk aF U r k kind text n m at_ ks) (A : eQ r L aF U) (hm : 0 < mm) (hl : l2.length = mm) (hb : ks.length + mm <= 4294967296)
 (h : ∀ ae, Mk aF ae r k kind text n m at_ (ks ++ l2) -> eQ r L aF ae -> aj R (.box k 0) ae) : af K 103 [.box k 0, .vec mm c l2] U R := by
 refine Ka ?_
 obtain ⟨kv, h1, h2, h3, h4⟩ := M.box
 simp only [J9, dk, ai, aU, ff h1, rk, List.drop, bG, ck]
 refine HS h2 rfl (by simp [hl]) hm hb (fun e => h4 (qL.1 e)) fun bJ v' g1 e1 n1 => ?_
 have k1 : bJ.box k = some (rk kind text n m at_ kv) := by
  cases e : U.live k with
  | none => exact absurd e (cK h1)
  | some x =>
    have := e1 k x (fun n' l' hv => by
     rcases h2 with ⟨_, _, h2⟩ | ⟨τ, h2, ht, _⟩
     · rw [h2] at hv; cases hv
     · rw [h2] at hv; cases hv; exact fJ h1 ht rfl) e
    rw [gC (this.trans e.symm)]; exact h1
 have A1 : eQ r L aF bJ := by
  have key : ∀ b x, aF.live b = some x -> U.live b = some x -> bJ.live b = some x := fun b x hx hy => e1 b x (fun n' l' hv => by rw [h3 _ _ _ hv] at hx; cases hx) hy
  refine ⟨?_, fun b x hbr hx => key b x hx (A.ex b x hbr hx)⟩
  cases e : U.live r with
  | none => exact absurd e (cK A.box)
  | some x =>
    have := e1 r x (fun n' l' hv => by
     rcases h2 with ⟨_, _, h2⟩ | ⟨τ, h2, ht, _⟩
     · rw [h2] at hv; cases hv
     · rw [h2] at hv; cases hv; exact fJ A.box ht rfl) e
    rw [gC (this.trans e.symm)]; exact A.box
 rw [cA k1]
 have bQ : v' ≠ .al := by
  rcases g1 with ⟨h0, _, _⟩ | ⟨τ, e, _⟩
  · omega
  · rw [e]; simp
 have cS : v'.cS = true /\ ax v' = [v'] := by
  rcases g1 with ⟨h0, _, _⟩ | ⟨τ, e, _⟩
  · omega
  · rw [e]; exact ⟨rfl, rfl⟩
 refine ⟨⟨cS.1, by rw [cS.2]; rfl, by simp [rk]⟩, (h _ ⟨⟨v', ?_, ?_, fun n' rM l' hv => ?_, fun e => ?_⟩, M.new, M.ne⟩ ⟨by rw [aN M.ne.symm]; exact A1.box, A1.ex.set (.inl M.new)⟩)⟩
 · rw [aS, cS.2]; rfl
 · rw [fX, hl]
   rcases g1 with h0 | ⟨τ, e, ht, hl⟩
   · exact .inl h0
   · exact .inr ⟨τ, e, by rw [jo (fJ k1 ht).symm]; exact ht, hl⟩
 · rcases n1 n' rM l' hv with hx | ⟨n2, l2', hx⟩
   · cases e : aF.live rM with
     | none => rfl
     | some x =>
       by_cases Ze : rM = r
       · subst Ze; exact absurd hx (cK A.box)
       · have := A.ex rM x Ze e; rw [hx] at this; cases this
   · exact h3 _ _ _ hx
 · have : l2 = [] := (List.append_eq_nil_iff.1 e).2
   subst this; simp at hl; omega
theorem Sv {L : List AV} {mm : Nat} {c : iV} {l2 : List AV} (M : Mk aF U r k kind text n m at_ ks) (A : eQ r L aF U) (hm : 0 < mm) (hl : l2.length = mm) (hb : ks.length + mm <= 4294967296)
 (h : ∀ ae, Mk aF ae r k kind text n m at_ (ks ++ l2) -> eQ r L aF ae -> R (.ret (.box k 0)) ae) : af K 103 [.box k 0, .vec mm c l2] U R := Gq M A hm hl hb fun ae M A => aj.mk (h ae M A)
theorem Mk.done {l : List AV} {ns : List Nd} (M : Mk aF U r k kind text n m at_ ks) (hk : dY true ks ns) (A : eQ r l aF U) (h : ∀ a ae, dY false [a] (node kind text n m at_ ns) -> eQ r l aF ae -> R (.ret a) ae) : aj R (.box k 0) U := by
 obtain ⟨kv, h1, h2, h3, h4⟩ := M.box
 refine ⟨_, _, lA.freeze h1, h _ _ (.mk hk ?_) ⟨by rw [fI M.ne.symm]; exact A.box, A.ex.del (.inl M.new)⟩⟩
 rcases h2 with ⟨e1, e2, e3⟩ | ⟨τ, e, _, _⟩
 · exact .inl ⟨e2, e3⟩
 · exact .inr ⟨_, e⟩
end
end
end Go.Rip
namespace Go.Rip
open Go.Proofs Go.RowKit
structure Out (X : Rx) (r : Nat) (aF : St) (R : cB -> St -> Prop) (p : PR (List Nd)) : Prop where
 ok : ∀ ns j, p = .ok ns j -> j <= X.L.length -> ∀ a ae, dY false [a] ns -> eQ r (rd X j) aF ae -> R (.ret a) ae
 bad : ∀ j, p = .bad j -> ∀ ae, eQ r (rd X j) aF ae -> R (.panic (Fw X j)) ae
def Ct (X : Rx) (f : FuncId) (i : Nat) (p : PR (List Nd)) : Prop := ∀ (r : Nat) (U : St) (R : cB -> St -> Prop), U.box r = some (rd X i) -> Out X r U R p -> af K f [.box r 0] U R
structure Sk (X : Rx) (aF : St) (r k i : Nat) (kind : Int) (text : bf) (n m at_ : Int) (l : List Nd) (U : St) : Prop where
 A : eQ r (rd X i) aF U
 hi : i <= X.L.length
 M : ∃ ks, Mk aF U r k kind text n m at_ ks /\ dY true ks l /\ ks.length <= i
section
variable {X : Rx} {aF U : St} {r k i : Nat} {kind : Int} {text : bf} {n m at_ : Int} {l : List Nd} {R : cB -> St -> Prop} {K' : AV -> St -> Prop} {Kp : AV -> St -> Prop} {w : bf} {f : FuncId}
theorem Sk.gj (S : Sk X aF r k i kind text n m at_ l U) {ae : St} {j : Nat} (A : eQ r (rd X j) U ae) (hj : j <= X.L.length) (fM : i <= j) : Sk X aF r k j kind text n m at_ l ae := by
 obtain ⟨ks, h1, h2, h3⟩ := S.M
 exact ⟨S.A.trans A, hj, ks, h1.gj A S.A.box, h2, by omega⟩
theorem Out.gj {ae : St} {p : PR (List Nd)} {L : List AV} (O : Out X r U R p) (A : eQ r L U ae) : Out X r ae R p :=
 ⟨fun ns j h hj a bX k A2 => O.ok ns j h hj a bX k (A.trans A2), fun j h bX A2 => O.bad j h bX (A.trans A2)⟩
theorem gp (hr : U.box r = some (rd X i)) (hi : i <= X.L.length) {kind : Int} (h : ∀ k ae, Sk X U r k i kind [] 0 0 (eL X.L X.E i) [] ae -> K' (.box k 0) ae) : af K 99 [.box r 0, .int .u8 kind] U (au K' Kp) :=
 R0 hr kind fun k ae M A => h k ae ⟨A, hi, [], M, .nil, by simp⟩
theorem eu {q : Unit -> Nat -> PR (List Nd)} (S : Sk X aF r k i kind text n m at_ l U) (O : Out X r aF R ((cI X.L w i).bind q)) (h : ∀ ae, Sk X aF r k (i + 1) kind text n m at_ l ae -> Out X r aF R (q () (i + 1)) -> K' (.aQ []) ae) : af K 102 [.box r 0, .str w] U (au K' (aa R)) :=
 z7 S.A.box S.hi w (fun e hl ae A => h ae (S.gj A hl (by omega)) (by rw [e] at O; exact O)) fun e ae A => O.bad _ (by rw [e]; rfl) _ (S.A.trans A)
theorem nK {q : bf -> Nat -> PR (List Nd)} (S : Sk X aF r k i kind text n m at_ l U) (O : Out X r aF R ((iU X.L i).bind q)) (h : ∀ x ae, Sk X aF r k (i + 1) kind text n m at_ l ae -> Out X r aF R (q x (i + 1)) -> K' (.str x) ae) : af K 101 [.box r 0] U (au K' (aa R)) :=
 RL S.A.box S.hi (fun x e hl ae A => h x ae (S.gj A hl (by omega)) (by rw [e] at O; exact O)) fun e ae A => O.bad _ (by rw [e]; rfl) _ (S.A.trans A)
theorem pe {q : Int -> Nat -> PR (List Nd)} (S : Sk X aF r k i kind text n m at_ l U) (O : Out X r aF R ((kr X.L i).bind q)) (h : ∀ x ae, Sk X aF r k (i + 1) kind text n m at_ l ae -> Out X r aF R (q x (i + 1)) -> K' (.int .i64 x) ae) : af K 168 [.box r 0] U (au K' (aa R)) :=
 JI S.A.box S.hi (fun x e hl ae A => h x ae (S.gj A hl (by omega)) (by rw [e] at O; exact O)) fun e ae A => O.bad _ (by rw [e]; rfl) _ (S.A.trans A)
theorem zl (S : Sk X aF r k i kind text n m at_ l U) (h1 : cF X.L i w = true -> ∀ ae, Sk X aF r k (i + 1) kind text n m at_ l ae -> K' (.bool true) ae) (h2 : cF X.L i w = false -> ∀ ae, Sk X aF r k i kind text n m at_ l ae -> K' (.bool false) ae) : af K 100 [.box r 0, .str w] U (au K' Kp) :=
 Dt S.A.box S.hi w (fun e ae A => h1 e ae (S.gj A (dh e) (by omega))) fun e ae A => h2 e ae (S.gj (.pF S.A.box A) S.hi (by omega))
theorem Wb (S : Sk X aF r k i kind text n m at_ l U) (h : ∀ b ae, cF X.L i w = b -> Sk X aF r k i kind text n m at_ l ae -> K' (.bool b) ae) :
 (aP (some (9, 1)) (some [AV.str []]) 1 false [(0, .str w)]).wp K U (fun v U => af K 105 [.box r 0, v] U (au K' Kp)) Kp := by
 rw [fO]
 refine ⟨by omega, ?_⟩
 rw [eM (o := 0) (s := 1) rfl]
 refine ⟨⟨rfl, rfl, by simp [bL]⟩, ?_⟩
 rw [gX]
 refine ⟨rfl, ?_⟩
 refine Ha (l := [w]) S.A.box S.hi (by simp) fun bJ e1 => ?_
 exact h _ _ (by rw [wA]) (S.gj (.pF S.A.box e1) S.hi (by omega))
theorem nL {x : bf} (S : Sk X aF r k i kind text n m at_ l U) (h : ∀ ae, Sk X aF r k i kind x n m at_ l ae -> K' (.aQ []) ae) : (aM (some (false, 1)) (.box k 1) (.str x) U).wp K U K' Kp := by
 obtain ⟨ks, h1, h2, h3⟩ := S.M
 exact h1.vT (fun kv => ⟨rfl, rfl, by simp [rk], rfl⟩) S.A fun ae M A => h ae ⟨A, S.hi, ks, M, h2, h3⟩
theorem Sd {x : Int} (S : Sk X aF r k i kind text n m at_ l U) (h : ∀ ae, Sk X aF r k i x text n m at_ l ae -> K' (.aQ []) ae) : (aM (some (false, 1)) (.box k 0) (.int .u8 x) U).wp K U K' Kp := by
 obtain ⟨ks, h1, h2, h3⟩ := S.M
 exact h1.vT (fun kv => ⟨rfl, rfl, by simp [rk], rfl⟩) S.A fun ae M A => h ae ⟨A, S.hi, ks, M, h2, h3⟩
theorem HM {x : Int} (S : Sk X aF r k i kind text n m at_ l U) (h : ∀ ae, Sk X aF r k i kind text x m at_ l ae -> K' (.aQ []) ae) : (aM (some (false, 1)) (.box k 2) (.int .i64 x) U).wp K U K' Kp := by
 obtain ⟨ks, h1, h2, h3⟩ := S.M
 exact h1.vT (fun kv => ⟨rfl, rfl, by simp [rk], rfl⟩) S.A fun ae M A => h ae ⟨A, S.hi, ks, M, h2, h3⟩
theorem aaT {x : Int} (S : Sk X aF r k i kind text n m at_ l U) (h : ∀ ae, Sk X aF r k i kind text n x at_ l ae -> K' (.aQ []) ae) : (aM (some (false, 1)) (.box k 3) (.int .i64 x) U).wp K U K' Kp := by
 obtain ⟨ks, h1, h2, h3⟩ := S.M
 exact h1.vT (fun kv => ⟨rfl, rfl, by simp [rk], rfl⟩) S.A fun ae M A => h ae ⟨A, S.hi, ks, M, h2, h3⟩
theorem DY {a : AV} {ns : List Nd} {j : Nat} (S : Sk X aF r k j kind text n m at_ l U) (hj : ∀ ks, Mk aF U r k kind text n m at_ ks -> dY true ks l -> ks.length <= j -> ∃ ks', Mk aF U r k kind text n m at_ ks' /\ dY true ks' l /\ ks'.length + 1 <= j) (hk : dY false [a] ns) (h : ∀ ae, Sk X aF r k j kind text n m at_ (l ++ ns) ae -> K' (.box k 0) ae) :
 (aP (some (87, 1)) (some [AV.a7]) 1 false [(0, a)]).wp K U (fun v U => af K 103 [.box k 0, v] U (au K' (aa R))) (aa R) := by
 have ha : a.cS = true /\ ax a = [a] := by
  generalize hb : false = b at hk
  generalize hl : [a] = la at hk
  cases hk with
  | mk _ _ => cases hl; exact ⟨rfl, rfl⟩
  | nil => cases hl
  | cons _ _ => cases hb
 rw [fO]
 refine ⟨by omega, ?_⟩
 rw [eM (o := 0) (s := 1) rfl]
 refine ⟨⟨ha.1, by rw [ha.2]; rfl, by simp [bL]⟩, ?_⟩
 rw [gX]
 rw [ha.2]
 refine ⟨rfl, ?_⟩
 obtain ⟨Zr, g1, g2, g3⟩ := S.M
 obtain ⟨ks, h1, h2, h3⟩ := hj Zr g1 g2 g3
 have := X.small
 have hi := S.hi
 refine Sv (l2 := [a]) h1 S.A (by omega) rfl (by omega) fun ae M A => ?_
 exact h ae ⟨A, S.hi, _, M, h2.snoc hk, by simp; omega⟩
theorem kG {p : PR (List Nd)} {q : List Nd -> Nat -> PR (List Nd)} (S : Sk X aF r k i kind text n m at_ l U) (C : Ct X f i p) (hp : Gd X.L.length (i + 1) i p) (O : Out X r aF R (p.bind q))
 (h : ∀ ns j ae, j <= X.L.length -> i < j -> Sk X aF r k j kind text n m at_ (l ++ ns) ae -> Out X r aF R (q ns j) -> K' (.box k 0) ae) :
 af K f [.box r 0] U (au (fun v U => (aP (some (87, 1)) (some [AV.a7]) 1 false [(0, v)]).wp K U (fun v U => af K 103 [.box k 0, v] U (au K' (aa R))) (aa R)) (aa R)) := by
 refine C r U _ S.A.box ⟨fun ns j e hj a ae hk A => ?_, fun j e ae A => O.bad j (by rw [e]; rfl) ae (S.A.trans A)⟩
 rw [e] at hp O
 have fM : i < j := hp.1
 have S1 := S.gj A hj (by omega)
 refine DY S1 (fun ks _ _ _ => ?_) hk fun bX S2 => h ns j bX hj fM S2 O
 obtain ⟨ks, h1, h2, h3⟩ := S.M
 exact ⟨ks, h1.gj A S.A.box, h2, by omega⟩
theorem eP (S : Sk X aF r k i kind text n m at_ l U) (O : Out X r aF R (.ok (node kind text n m at_ l) i)) : aj R (.box k 0) U := by
 obtain ⟨ks, h1, h2, h3⟩ := S.M
 exact h1.done h2 S.A fun a ae hk A => O.ok _ _ rfl S.hi a ae hk A
theorem zb : aa (au K' Kp) = Kp := rfl
theorem B8 {hY : FuncId} (he : dB K.P hY = true) {c : List AV} : (fY K.P (.func (.func hY) [.box r 0] []) []).wp K U K' Kp = af K hY [.box r 0] U (au K' Kp) := by
 simp [fY, he]
theorem RI {one : Nat -> PR (List Nd)} {hY : FuncId} (he : dB K.P hY = true) (C : ∀ i, i <= X.L.length -> Ct X hY i (one i)) (hg : ∀ i, i <= X.L.length -> Gd X.L.length (i + 1) i (one i))
 {fu : Nat} (hf : X.L.length - i <= fu) (h0 : 0 < fu) {q : List Nd -> Nat -> PR (List Nd)} (S : Sk X aF r k i kind text n m at_ l U) (O : Out X r aF R ((wv X.L one fu i).bind q))
 (h : ∀ ns j ae, j <= X.L.length -> i < j -> Sk X aF r k j kind text n m at_ (l ++ ns) ae -> Out X r aF R (q ns j) -> K' (.aQ []) ae) : af K 106 [.box r 0, .box k 0, .func (.func hY) [.box r 0] []] U (au K' (aa R)) := by
 refine BA ?_
 unfold DS
 rw [B8 he (c := [])]
 have e : (wv X.L one fu i).bind q = (one i).bind fun a j => (pR X.L one fu a j).bind q := by
  unfold wv; cases one i <;> rfl
 rw [e] at O
 simp only [zb]
 refine kG S (C i S.hi) (hg i S.hi) O fun ns j bJ hj fM S1 O1 => ?_
 refine ⟨fun mm v0 v1 v2 ae => ∃ acc j f', mm = X.L.length - j /\ v0 = .box r 0 /\ v1 = .box k 0 /\ v2 = .func (.func hY) [.box r 0] [] /\ j <= X.L.length /\ i < j /\ X.L.length - j < f' /\ Sk X aF r k j kind text n m at_ (l ++ acc) ae /\ Out X r aF R ((pR X.L one f' acc j).bind q),
  ⟨_, ns, j, fu, rfl, rfl, rfl, rfl, hj, fM, by omega, S1, O1⟩, ?_⟩
 rintro mm v0 v1 v2 bX ⟨acc, j2, f', rfl, rfl, rfl, rfl, ov, zV, UD, S2, O2⟩
 cases f' with
 | zero => omega
 | succ f' =>
   unfold pR at O2
   refine zl S2 (fun hw cE S3 => ?_) (fun hw cE S3 => ?_)
   · simp only [bh]
     rw [if_pos hw] at O2
     have aJ := dh hw
     rw [B8 he (c := [])]
     have e2 : ((one (j2 + 1)).bind fun b j => pR X.L one f' (acc ++ b) j).bind q = (one (j2 + 1)).bind fun b j => (pR X.L one f' (acc ++ b) j).bind q := by
      cases one (j2 + 1) <;> rfl
     rw [e2] at O2
     refine kG S3 (C _ aJ) (hg _ aJ) O2 fun Vz j3 cW FB aac S4 O4 => ?_
     refine ⟨_, ?_, acc ++ Vz, j3, f', rfl, rfl, rfl, rfl, FB, by omega, by omega, by rw [<- pw]; exact S4, O4⟩
     omega
   · simp only [aV]
     rw [if_neg (by rw [hw]; simp)] at O2
     exact aj.mk (h acc j2 cE ov zV S3 O2)
end
end Go.Rip
