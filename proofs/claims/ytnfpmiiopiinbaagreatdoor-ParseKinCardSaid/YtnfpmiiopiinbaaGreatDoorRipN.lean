/- Lemmas for the proof: no conditions. -/
import Derived.Test.YtnfpmiiopiinbaaGreatDoorRipZz
import Derived.Test.YtnfpmiiopiinbaaGreatDoorRipM
import Derived.Test.YtnfpmiiopiinbaaGreatDoorRipF
import Derived.Test.YtnfpmiiopiinbaaGreatDoorRipG
import Derived.Test.YtnfpmiiopiinbaaGreatDoorRipH
import Derived.Test.YtnfpmiiopiinbaaGreatDoorRipE
set_option linter.unusedVariables false
set_option linter.unusedSimpArgs false
set_option linter.loopingSimpArgs false
namespace Go.Rip
open Go.RowKit
structure Rx where
 L : List Tk
 E : Nat
 tv : AV
 tr : eS tv L.length (fF L)
 ok : ∀ t ∈ L, ox t
 small : L.length <= 900
def rd (X : Rx) (i : Nat) : List AV := [X.tv, .int .i64 i, .int .i64 X.E, BI, qu]
def De (X : Rx) (i : Nat) : AV := .iface 136 (.agg [.int .i64 (dR X.L X.E i)])
theorem eS.len {v : AV} {n : Nat} {cs : List AV} (h : eS v n cs) : bZ (some false) v = .val (.int .i64 n) := by
 rcases h with ⟨rfl, rfl, rfl⟩ | ⟨c, rfl⟩ <;> rfl
theorem eS.at {v : AV} {n : Nat} {cs : List AV} (h : eS v n cs) {sz e j : Nat} (hj : j < n) : ∃ c, v = .vec n c cs /\ aJ (some (e, sz)) none v (.int .i64 (j : Int)) = .cond (0 <= (j : Int) /\ (j : Int) < n) (.val (.bL (cs.drop (j * sz)))) := by
 rcases h with ⟨rfl, rfl, rfl⟩ | ⟨c, rfl⟩
 · omega
 · exact ⟨c, rfl, by simp⟩
theorem uN : ∀ i, closed (K.tc i) = true := fun i => by
 show closed (if i = 0 then .bL qo else if i = 7 then .bL qO else .any) = true
 split
 · kernel_rfl
 · split
   · kernel_rfl
   · rfl
theorem Pure.of {f : Nat} {args : List AV} {x : AV} (hargs : bH args = true) (hx : closed x = true) (hr : ∀ U, resolve 5 U x = x)
 (h : ∀ R : cm -> St -> Prop, (∀ ad, R (.ret x) ad) -> ae K f args (bj ⟨.e, 0⟩) R) : Pure K f args x :=
 Pure.uA uN hargs hx 5 (h _ fun ad => ⟨x, rfl, hr ad⟩)
def idx (l : List aW) (s : aW) : Int := match l.findIdx? (· = s) with | some i => i | none => -1
theorem EF (c : ik) (l : List aW) (s : aW) (hn : l.length <= 100000) : Pure K 230 [.vec l.length c (l.map .str), .str s] (.int .i64 (idx l s)) := by
 intro U R hR
 refine Jd ?_
 simp only [Jc, qI, ag]
 refine ⟨fun m v0 v1 v7 v8 ad => ∃ i : Nat, m = l.length - i /\ i <= l.length /\ v0 = .vec l.length c (l.map .str) /\ v1 = .str s /\ v7 = .int .i64 l.length /\ v8 = .int .i64 i /\ ad = U /\ ∀ j, j < i -> l[j]? ≠ some s, ⟨l.length, 0, by simp [Fn.app]⟩, ?_⟩
 intro m v0 v1 v7 v8 ad hI
 obtain ⟨i, rfl, hi, rfl, rfl, rfl, rfl, rfl, fB⟩ := hI
 simp only [bO, ag, br]
 refine ⟨fun aH => ?_, fun iX => ?_⟩
 · have aH : i < l.length := by omega
   have hd : (l.map AV.str).drop (i * 1) = .str l[i] :: (l.map AV.str).drop (i + 1) := by
    rw [Nat.mul_one, fT (by simpa using aH)]; simp
   simp only [sD, wp_cond, ag, eF, hd, pC, cK, na, br]
   refine ⟨by omega, fun he => ?_, fun bX => ?_⟩
   · refine aj.eq hR ?_
     have : l.findIdx? (· = s) = some i := by
      rw [BM]
      refine ⟨aH, by simp [he], fun j hj => ?_⟩
      have := fB j hj
      rw [j4 (by omega)] at this
      simpa using this
     simp [idx, this]
   · simp only [hY, dI, wp_cond, ag]
     refine ⟨bh (by omega) (by omega), ?_⟩
     refine ⟨l.length - (i + 1), by omega, i + 1, rfl, by omega, rfl, rfl, rfl, by simp, rfl, fun j hj => ?_⟩
     · rcases ga j i with h | h
       · exact fB j h
       · have : j = i := by omega
         subst this
         rw [j4 aH]; simpa using fun h => bX h.symm
 · refine aj.eq hR ?_
   have : l.findIdx? (· = s) = none := by
    rw [List.findIdx?_eq_none_iff]
    intro x hx
    obtain ⟨j, hj, rfl⟩ := List.getElem_of_mem hx
    have := fB j (by omega)
    rw [j4 hj] at this
    simpa using this
   simp [idx, this]
section
variable {X : Rx} {r i : Nat} {U : St} {R : cm -> St -> Prop}
theorem BJ (hr : U.box r = some (rd X i)) (h : R (.ret (.int .i64 (dR X.L X.E i))) U) : ae K 164 [.box r 0] U R := by
 refine ID ?_
 simp only [IC, cH, aC, aU, ld hr, rd, List.drop, cK, X.tr.len, bO, br, ag, ck]
 refine ⟨fun aH => ?_, fun iX => ?_⟩
 · have aH : i < X.L.length := by omega
   obtain ⟨c, hv, nP⟩ := X.tr.at (sz := 3) (e := 51) aH
   obtain ⟨t, ht⟩ : ∃ t, X.L[i]? = some t := ⟨X.L[i], by simp [aH]⟩
   obtain ⟨rest, hd⟩ := yA ht
   simp only [nP, fP, aC, hd, cJ, pC, lk, jn, iN, List.drop, cK]
   refine ⟨by omega, aj.mk ?_⟩
   have : dR X.L X.E i = t.at_ := by simp [dR, ht]
   rw [<- this]; exact h
 · refine aj.mk ?_
   have : dR X.L X.E i = X.E := by simp [dR, rU (show X.L.length <= i by omega)]
   rw [<- this]; exact h
def mL : Option Tk -> List AV
 | some t => lk t
 | none => [.int .u8 0, .str [], .int .i64 0]
theorem lI (hr : U.box r = some (rd X i)) (hi : i <= X.L.length) (k : Nat) (hk : k <= 10) (h : ∀ ad, cF U ad -> R (.ret (.agg (mL X.L[i + k]?))) ad) : ae K 167 [.box r 0, .int .i64 k] U R := by
 refine IH ?_
 have hs := X.small
 simp only [IG, lq]
 intro b hb
 have QR := hb.ca hr
 have A6 : (U.new b (.box [AV.int .u8 0, AV.str [], AV.int .i64 0])).box r = some (rd X i) := by rw [ma QR]; exact hr
 have fq : (U.new b (.box [AV.int .u8 0, AV.str [], AV.int .i64 0])).box b = some [AV.int .u8 0, AV.str [], AV.int .i64 0] := aN
 simp only [NV.at, cH, aC, aU, ld A6, rd, List.drop, cK, X.tr.len, hY, dI, fP, bO, br, ag, ck]
 refine ⟨bh (by omega) (by omega), fun aH => ?_, fun iX => ?_⟩
 · have aH : i + k < X.L.length := by omega
   obtain ⟨c, hv, nP⟩ := X.tr.at (sz := 3) (e := 51) aH
   obtain ⟨t, ht⟩ : ∃ t, X.L[i + k]? = some t := ⟨X.L[i + k], by simp [aH]⟩
   obtain ⟨rest, hd⟩ := yA ht
   rw [<- Int.natCast_add]
   simp only [nP, fP, aC, hd, E0, tY fq, wp_cond, hC]
   refine ⟨bh (by omega) (by omega), by omega, by simp [lk], by simp [lk], ?_⟩
   rw [pZ (G9 (aZ) 3 0)]
   refine ⟨by simp [aB, lk], ?_⟩
   refine aj.eq (h _ (((cF.refl U).new hb).set hb.1)) ?_
   simp [aB, lk, ht, mL]
 · simp only [dO, dY, ag, tY fq, wp_cond, hC]
   refine ⟨by simp, ?_⟩
   rw [pZ (G9 (aZ) 3 0)]
   refine ⟨by simp [aB], ?_⟩
   refine aj.eq (h _ (((cF.refl U).new hb).set hb.1)) ?_
   simp [aB, rU (show X.L.length <= i + k by omega), mL]
def p5 (o : Option Tk) (l : List aW) : Bool := match o with
 | some t => (t.k == 3 || t.k == 4) && decide (t.s ∈ l)
 | none => false
theorem EE (l : List aW) (s : aW) : decide (0 <= idx l s) = decide (s ∈ l) := by
 unfold idx
 split
 · rename_i j hj
   obtain ⟨h1, h2, _⟩ := BM.1 hj
   have : s ∈ l := by have := of_decide_eq_true h2; exact this ▸ List.getElem_mem h1
   simp [this]
 · rename_i hj
   rw [List.findIdx?_eq_none_iff] at hj
   have : s ∉ l := fun hm => by simpa using hj s hm
   simp [this]
theorem zD (c : ik) (l : List aW) (s : aW) (hn : l.length <= 100000) : Pure K 178 [.vec l.length c (l.map .str), .str s] (.bool (decide (s ∈ l))) := by
 intro U R hR
 refine IL ?_
 refine (EF c l s hn).go ?_
 simp only [fK, ag]
 refine aj.eq hR ?_
 rw [EE]
theorem vD {c : ik} (o : Option Tk) (l : List aW) (hn : l.length <= 100000) (h : ∀ ad, cF U ad -> R (.ret (.bool (p5 o l))) ad) : ae K 121 [.agg (mL o), .vec l.length c (l.map .str)] U R := by
 refine HT ?_
 have hl : ∃ k s a, mL o = [.int .u8 k, .str s, .int .i64 a] /\ p5 o l = ((decide (k = 3) || decide (k = 4)) && decide (s ∈ l)) := by
  cases o with
  | none => exact ⟨0, [], 0, rfl, rfl⟩
  | some t => exact ⟨t.k, t.s, t.at_, rfl, by
     have e : ∀ m : Nat, (t.k == m) = decide ((t.k : Int) = (m : Int)) := fun m => by
      rw [mC]; simp; omega
     simp only [p5, e 3, e 4]; rfl⟩
 obtain ⟨k, s, a, e1, e2⟩ := hl
 rw [e1]
 simp only [HS, yL _ (KP _), wp_cond, true_and, F5, lq]
 intro b_ hb
 have fq : (U.new b_ (.box [.int .u8 k, .str s, .int .i64 a])).box b_ = some [.int .u8 k, .str s, .int .i64 a] := aN
 have hx := h _ ((cF.refl U).new (x := .box [.int .u8 k, .str s, .int .i64 a]) hb)
 rw [e2] at hx
 simp only [NV.at, aU, ag, ld fq, List.drop, cK, bf, aT, aI, mA, ck]
 have GD := zD c l s hn
 have step : ∀ b : Bool, ((decide (k = 3) || decide (k = 4)) && decide (s ∈ l)) = b -> aj R (.bool b) (U.new b_ (.box [.int .u8 k, .str s, .int .i64 a])) := fun b e => by subst e; exact aj.mk hx
 by_cases h3 : k = 3
 · subst h3
   simp [ld fq]
   exact ⟨_, GD, step _ (by simp)⟩
 · by_cases h4 : k = 4
   · subst h4
     simp [ld fq]
     exact ⟨_, GD, step _ (by simp)⟩
   · simp [ld fq, h3, h4]
     exact step _ (by simp [h3, h4])
theorem Cx (s w : aW) : decide (s ∈ [w]) = (s == w) := by
 by_cases h : s = w
 · simp [h]
 · simp [h]
theorem uB (L : List Tk) (i : Nat) (w : aW) : p5 L[i]? [w] = bW L i w := by
 unfold p5 bW
 split
 · rename_i t ht; rw [ht, Cx]
 · rename_i ht; rw [ht]
theorem EM {c : ik} (hr : U.box r = some (rd X i)) (hi : i <= X.L.length) (l : List aW) (hn : l.length <= 100000) (h : ∀ ad, cF U ad -> R (.ret (.bool (p5 X.L[i]? l))) ad) : ae K 105 [.box r 0, .vec l.length c (l.map .str)] U R := by
 refine HP ?_
 refine lI hr hi 0 (by omega) fun bM e1 => ?_
 refine vD (X.L[i]?) l hn fun bN e2 => ?_
 exact aj.mk (h _ (e1.trans e2))
theorem Bv (hr : U.box r = some (rd X i)) (hi : i <= X.L.length) (w : aW)
 (h1 : bW X.L i w = true -> ∀ ad, ef r (rd X (i + 1)) U ad -> R (.ret (.bool true)) ad) (h2 : bW X.L i w = false -> ∀ ad, cF U ad -> R (.ret (.bool false)) ad) : ae K 100 [.box r 0, .str w] U R := by
 refine HK ?_
 have hs := X.small
 simp only [HJ, aD, dY, yM, KT, bp, wp_cond, ag, aB, List.take, List.drop, iN, jn, jI]
 refine ⟨by omega, by simp, by simp, ?_⟩
 refine EM (l := [w]) hr hi (by simp) fun bM e1 => ?_
 have A6 := e1.bA hr
 simp only [bB, dm, ag, uB]
 cases hw : bW X.L i w with
 | false => simp only [dJ, bm]; exact aj.mk (h2 hw _ e1)
 | true =>
   simp only [cu, aX, cH, ag, aU, ld A6, rd, List.drop, cK, ck, hY, dI, wp_cond, tY A6, hC]
   refine ⟨bh (by omega) (by omega), by simp, aj.mk (h1 hw _ ⟨?_, (e1.Gi (r := r)).set (.inr rfl)⟩)⟩
   rw [aZ]; simp [aB, rd]
theorem Dd (hr : U.box r = some (rd X i)) (h : R (.panic (De X i)) U) : ae K 166 [.box r 0] U R := by
 refine IF ?_
 refine BJ hr ?_
 simp only [bB, dO, dY, F6, KS, wp_cond, ag, aB, rI, if_true, oW, Ma]
 refine ⟨by simp, ?_⟩
 exact h
theorem yj (hr : U.box r = some (rd X i)) (hi : i <= X.L.length) (w : aW)
 (h1 : bY X.L w i = .ok () (i + 1) -> i + 1 <= X.L.length -> ∀ ad, ef r (rd X (i + 1)) U ad -> R (.ret (.aL [])) ad) (h2 : bY X.L w i = .bad i -> ∀ ad, ef r (rd X i) U ad -> R (.panic (De X i)) ad) : ae K 102 [.box r 0, .str w] U R := by
 refine HM ?_
 refine Bv hr hi w (fun hw bM a1 => ?_) (fun hw bM e1 => ?_)
 · simp only [bB, dm, ag, cu, aX]
   exact aj.mk (h1 (by simp [bY, hw]) (cG hw) _ a1)
 · simp only [bB, dm, ag, dJ, bm]
   exact Dd (e1.bA hr) (h2 (by simp [bY, hw]) _ (.nQ hr e1))
theorem pM (o : Option Tk) : ∃ k : Int, ∃ s a, mL o = [.int .u8 k, .str s, .int .i64 a] /\ (∀ m : Nat, 0 < m -> (k = (m : Int) ↔ ∃ t, o = some t /\ t.k = m /\ t.s = s)) := by
 cases o with
 | none => exact ⟨0, [], 0, rfl, fun m hm => ⟨fun h => by omega, fun ⟨t, h, _⟩ => by cases h⟩⟩
 | some t => exact ⟨t.k, t.s, t.at_, rfl, fun m hm => ⟨fun h => ⟨t, rfl, by omega, rfl⟩, fun ⟨u, h, h2, h3⟩ => by cases h; omega⟩⟩
theorem Hu (hr : U.box r = some (rd X i)) (hi : i <= X.L.length) (k : Nat) (hk : 0 < k)
 (h1 : ∀ t, X.L[i]? = some t -> t.k = k -> i + 1 <= X.L.length -> ∀ ad, ef r (rd X (i + 1)) U ad -> R (.ret (.str t.s)) ad) (h2 : (∀ t, X.L[i]? = some t -> t.k ≠ k) -> ∀ ad, ef r (rd X i) U ad -> R (.panic (De X i)) ad) : ae K 165 [.box r 0, .int .u8 k] U R := by
 refine IE ?_
 have hs := X.small
 refine lI hr hi 0 (by omega) fun bM e1 => ?_
 have A6 := e1.bA hr
 obtain ⟨m, s, a, e, hm⟩ := pM X.L[i + 0]?
 rw [e]
 simp only [bB, lq]
 intro b hb
 have QR := hb.ca A6
 have e2 := e1.new (x := .box [AV.int .u8 0, AV.str [], AV.int .i64 0]) hb
 have fq : (bM.new b (.box [AV.int .u8 0, AV.str [], AV.int .i64 0])).box b = some [AV.int .u8 0, AV.str [], AV.int .i64 0] := aN
 simp only [NV.at, tY fq, wp_cond, hC]
 refine ⟨by simp, ?_⟩
 have e3 := e2.set (x := .box (aB [AV.int .u8 0, AV.str [], AV.int .i64 0] 0 (au (.agg [.int .u8 m, .str s, .int .i64 a])))) (e1.fresh hb.1)
 generalize kZ : (bM.new b (.box [AV.int .u8 0, AV.str [], AV.int .i64 0])).set b (.box (aB [AV.int .u8 0, AV.str [], AV.int .i64 0] 0 (au (.agg [.int .u8 m, .str s, .int .i64 a])))) = cC at e3 ⊢
 have il : cC.box b = some [.int .u8 m, .str s, .int .i64 a] := by rw [<- kZ, aZ]; rfl
 have qB := e3.bA hr
 intro j hj
 simp only [aU, ag, ld il, List.drop, cK, ck, cL, ay, Bool.not_eq_true', decide_eq_false_iff_not, Bool.not_eq_false', dp]
 refine ⟨fun bX => ?_, fun heq => ?_⟩
 · refine Dd qB ?_
   exact h2 (fun t ht he => bX ((hm k hk).2 ⟨t, ht, he, by rw [Nat.add_zero, ht] at e; cases e; rfl⟩)) _ (.nQ hr e3)
 · obtain ⟨t, ht, oH, tn⟩ := (hm k hk).1 heq
   have aH := (cT.1 ht).1
   refine hj _ _ _ ?_
   simp only [cH, ag, aU, ld qB, rd, List.drop, cK, ck, hY, dI, wp_cond, tY qB, hC]
   refine ⟨bh (by omega) (by omega), by simp, ?_⟩
   rw [hC]
   generalize Bf : cC.set r _ = cU
   have nv : cU.box b = some [.int .u8 m, .str s, .int .i64 a] := by rw [<- Bf, aP (Ne.symm QR)]; exact il
   have Yv : cU.box r = some (rd X (i + 1)) := by rw [<- Bf, aZ]; simp [aB, rd]
   have e4 : gb r U cU := by rw [<- Bf]; exact (e3.Gi (r := r)).set (.inr rfl)
   simp only [ld nv, List.drop, cK, ag]
   refine aj.mk ?_
   rw [<- tn]
   exact h1 t ht oH aH _ ⟨Yv, e4⟩
theorem N6 (hr : U.box r = some (rd X i)) (hi : i <= X.L.length)
 (h1 : ∀ x, gJ X.L i = .ok x (i + 1) -> i + 1 <= X.L.length -> ∀ ad, ef r (rd X (i + 1)) U ad -> R (.ret (.str x)) ad) (h2 : gJ X.L i = .bad i -> ∀ ad, ef r (rd X i) U ad -> R (.panic (De X i)) ad) : ae K 101 [.box r 0] U R := by
 refine HL ?_
 refine Hu hr hi 1 (by omega) (fun t ht hk hl bM a1 => ?_) (fun hn bM a1 => ?_)
 · exact aj.mk (h1 t.s (by simp [gJ, ht, hk]) hl _ a1)
 · refine h2 ?_ _ a1
   unfold gJ
   split
   · rename_i t ht; rw [if_neg (hn t ht)]
   · rfl
end
end Go.Rip
namespace Go.Rip
open Go.Proofs Go.RowKit
theorem Pure.Hs {f : FuncId} {args : List AV} {vs : List Value} {x : AV} {v : Value} (hargs : ∀ g us, ar g args us -> us = vs) (hx : ∀ g, ak g x v)
 (h : ∀ w, Calls K.P f vs.toArray w fun e w' => e = .returned v /\ w.grownBy w' none) : Pure K f args x := by
 intro U R hR g w us hs hG ha
 have := hargs g us ha
 subst this
 refine callsIn_wide.2 ((h w).mono fun e w' ⟨h1, h2⟩ => ?_)
 subst h1
 exact ⟨g, U, x, Gh.Le.refl g, hs.grow h2, hx g, hR⟩
theorem Cq (w : World) (e : TypeId) (s : ByteArray) : w.grownBy (Lib.bytesWorld w e s) none := by
 have bX : ∀ q, q < w.heap.size -> w.heap.size ≠ q := fun q h => by omega
 unfold Lib.bytesWorld World.freeze
 split
 · exact ⟨rfl, rfl, rfl, by simp [World.alloc, World.drew, -World.alloc_eq, -World.drew_eq], fun q hq _ => by simp [World.alloc, World.drew, -World.alloc_eq, -World.drew_eq, Array.getElem?_push, Nat.ne_of_lt hq]⟩
 · refine ⟨rfl, rfl, rfl, by simp [World.alloc, World.drew, -World.alloc_eq, -World.drew_eq], fun q hq _ => ?_⟩
   simp [World.alloc, World.drew, -World.alloc_eq, -World.drew_eq, Array.getElem?_modify, Array.getElem?_push, bX q hq, Nat.ne_of_lt hq]
theorem FZ (s : aW) (h0 : s ≠ []) (h : lG s = 0) : Pure K 218 [.str s] (.aL [.int .i64 (rp s), .cg]) := by
 obtain ⟨h1, h2, _⟩ := Hp h0 h
 refine Pure.Hs (vs := [.string ⟨s.toArray⟩]) (v := .tuple #[.int .i64 (rp s), .nilIface]) (fun g us hr => Lb hr) (fun g => by simp [ak, ar]) fun w => ?_
 refine (Tryz.strconv_Atoi ⟨s.toArray⟩ (rp s) (by show s.toArray.size <= 18; simp; omega) (JY h0 (DI h).1) w).mono fun e w' ⟨he, t, hw⟩ => ⟨he, ?_⟩
 subst hw
 exact Cq _ _ _
section
variable {X : Rx} {r i : Nat} {U : St} {R : cm -> St -> Prop}
theorem Hq (hr : U.box r = some (rd X i)) (hi : i <= X.L.length)
 (h1 : ∀ x, jh X.L i = .ok x (i + 1) -> i + 1 <= X.L.length -> ∀ ad, ef r (rd X (i + 1)) U ad -> R (.ret (.int .i64 x)) ad) (h2 : jh X.L i = .bad i -> ∀ ad, ef r (rd X i) U ad -> R (.panic (De X i)) ad) : ae K 168 [.box r 0] U R := by
 refine II ?_
 refine Hu hr hi 2 (by omega) (fun t ht hk hl bM a1 => ?_) (fun hn bM a1 => ?_)
 · have bV := X.ok t (fw ht)
   refine (FZ t.s bV.1 (N9 bV hk)).go ?_
   simp only [bP, List.drop, cK, ag, aw, if_true]
   intro j hj
   simp only [and_self, if_true, ag, aX]
   exact hj _ _ (aj.mk (h1 _ (by simp [jh, ht, hk]) hl _ a1))
 · refine h2 ?_ _ a1
   unfold jh
   split
   · rename_i t ht; rw [if_neg (hn t ht)]
   · rfl
def py (kind : Int) (text : aW) (n m at_ : Int) (kv : AV) : List AV := [.int .u8 kind, .str text, .int .i64 n, .int .i64 m, .int .i64 at_, .int .i64 0, kv]
def Grow (U : St) (v : AV) (e : TypeId) (sz n : Nat) (l : List AV) : Prop := (n = 0 /\ l = [] /\ v = .aq) \/ ∃ τ, v = .vec n (.own τ) l /\ U.tok τ = some ⟨n, e, sz⟩ /\ l.length = n * sz
def OL (az : St) (v : AV) : Prop := ∀ n τ l, v = .vec n (.own τ) l -> az.live τ = none
theorem FG {e sz n m : Nat} {v y : AV} {l l2 : List AV} {K' : AV -> St -> Prop} {Kp : AV -> St -> Prop} (hg : Grow U v e sz n l) (hy : nL U y = some (m, l2)) (hl : l2.length = m * sz) (hm : 0 < m) (hb : n + m <= 4294967296) (h0 : n = 0 -> v = .aq)
 (h : ∀ ad v', Grow ad v' e sz (n + m) (l ++ l2) -> (∀ b x, (∀ n l, v ≠ .vec n (.own b) l) -> U.live b = some x -> ad.live b = some x) -> (∀ n τ l, v' = .vec n (.own τ) l -> U.live τ = none \/ ∃ n l, v = .vec n (.own τ) l) -> K' v' ad) : (eN (some (e, sz)) false v y U).wp K U K' Kp := by
 rcases hg with ⟨rfl, rfl, rfl⟩ | ⟨τ, rfl, ht, GF⟩
 · have GI : m ≠ 0 := by omega
   simp only [eN, hy, if_neg GI, bl, if_false, wp_cond]
   refine ⟨hl, by omega, fun b dz => ?_⟩
   refine h _ _ (.inr ⟨b, by simp [NV.at], by rw [ck]; exact xq, by simp [hl]⟩) (fun c x hc hx => (bz dz) c x hx) fun n τ l hv => ?_
   simp only [NV.at, AV.vec.injEq, ik.own.injEq] at hv
   exact .inl (hv.2.1 ▸ dz.1)
 · have wL : n ≠ 0 := fun e => by have := h0 e; cases this
   simp only [eN, hy, wp_cond]
   refine ⟨hl, ⟨ht, GF, hb⟩, fun b dz => ?_⟩
   refine h _ _ (.inr ⟨b, rfl, xq, by simp [hl, GF, Nat.add_mul]⟩) (fun c x hc hx => ?_) fun n' ra l' hv => ?_
   · refine (bz dz) c x ?_
     have bX : c ≠ τ := fun e => hc n l (by rw [e])
     show (U.del τ).live c = some x
     rw [lD, if_neg bX]; exact hx
   · simp only [NV.at, AV.vec.injEq, ik.own.injEq] at hv
     have hf := dz.1
     rw [<- hv.2.1]
     by_cases e : b = τ
     · subst e; exact .inr ⟨_, _, rfl⟩
     · left
       have : (U.del τ).live b = none := hf
       rw [lD, if_neg e] at this; exact this
structure Mk (az U : St) (r k : Nat) (kind : Int) (text : aW) (n m at_ : Int) (ks : List AV) : Prop where
 box : ∃ kv, U.box k = some (py kind text n m at_ kv) /\ Grow U kv 87 1 ks.length ks /\ OL az kv /\ (ks = [] -> kv = .aq)
 new : az.live k = none
 ne : k ≠ r
inductive dq : Bool -> List AV -> List Nd -> Prop
 | mk {kind : Int} {text : aW} {n m at_ : Int} {kv : AV} {ks : List AV} {l : List Nd} : dq true ks l -> (ks = [] /\ kv = .aq \/ ∃ c, kv = .vec ks.length c ks) -> dq false [.bL (py kind text n m at_ kv)] (node kind text n m at_ l)
 | nil : dq true [] []
 | cons {a : AV} {ks : List AV} {l l' : List Nd} : dq false [a] l -> dq true ks l' -> dq true (a :: ks) (l ++ l')
theorem dq.snoc {ks : List AV} {l : List Nd} {a : AV} {l' : List Nd} (h : dq true ks l) (k : dq false [a] l') : dq true (ks ++ [a]) (l ++ l') := by
 generalize hb : true = b at h
 induction h with
 | mk _ _ _ => cases hb
 | nil => simpa using dq.cons k dq.nil
 | cons h1 h2 _ ih => rw [oY]; exact .cons h1 (ih rfl)
theorem dq.one {a : AV} {l : List Nd} (k : dq false [a] l) : dq true [a] l := by simpa using dq.cons k dq.nil
section
variable {X : Rx} {r i j k : Nat} {az U ad : St} {R : cm -> St -> Prop} {kind : Int} {text : aW} {n m at_ : Int} {ks : List AV}
theorem Mk.fp {l : List AV} (M : Mk az U r k kind text n m at_ ks) (a : ef r l U ad) {l' : List AV} (hr : U.box r = some l') : Mk az ad r k kind text n m at_ ks := by
 obtain ⟨kv, h1, h2, h3, h4⟩ := M.box
 refine ⟨⟨kv, a.ex.bA M.ne h1, ?_, h3, h4⟩, M.new, M.ne⟩
 rcases h2 with h2 | ⟨τ, e, ht, hl⟩
 · exact .inl h2
 · exact .inr ⟨τ, e, a.ex.tok (eh hr ht).symm ht, hl⟩
theorem Mk.tY (M : Mk az U r k kind text n m at_ ks) {o w : Nat} {v : AV} {MI : Int} {Nn : aW} {n' m' PQ : Int} {K' : AV -> St -> Prop} {Kp : AV -> St -> Prop} {t : Bool}
 (hs : ∀ kv, v.cr = true /\ (au v).length = w /\ o + w <= (py kind text n m at_ kv).length /\ aB (py kind text n m at_ kv) o (au v) = py MI Nn n' m' PQ kv)
 {L : List AV} (A : ef r L az U)
 (h : ∀ ad, Mk az ad r k MI Nn n' m' PQ ks -> ef r L az ad -> K' (.aL []) ad) : (aM (some (t, w)) (.box k o) v U).wp K U K' Kp := by
 obtain ⟨kv, h1, h2, h3, h4⟩ := M.box
 obtain ⟨s1, s2, s3, s4⟩ := hs kv
 rw [dh h1, s4]
 refine ⟨⟨s1, s2, s3⟩, h _ ⟨⟨kv, aZ, ?_, h3, h4⟩, M.new, M.ne⟩ ⟨by rw [aP M.ne.symm]; exact A.box, A.ex.set (.inl M.new)⟩⟩
 rcases h2 with h2 | ⟨τ, e, ht, hl⟩
 · exact .inl h2
 · exact .inr ⟨τ, e, by rw [gn (eh h1 ht).symm]; exact ht, hl⟩
theorem Ok (hr : U.box r = some (rd X i)) (kind : Int) (h : ∀ k ad, Mk U ad r k kind [] 0 0 (dR X.L X.E i) [] -> ef r (rd X i) U ad -> R (.ret (.box k 0)) ad) : ae K 99 [.box r 0, .int .u8 kind] U R := by
 refine LA ?_
 refine BJ hr ?_
 refine pc [.int .u8 kind, .str [], .int .i64 0, .int .i64 0, .int .i64 (dR X.L X.E i), .int .i64 0] rfl ?_
 refine pc (py kind [] 0 0 (dR X.L X.E i) .aq) rfl ?_
 rw [eH rfl]
 intro b hb
 exact aj.mk (h b _ ⟨⟨_, aN, .inl ⟨rfl, rfl, rfl⟩, (fun _ _ _ e => by cases e), fun _ => rfl⟩, hb.1, (hb.ca hr).symm⟩ (.nQ hr ((cF.refl U).new hb)))
theorem DZ {L : List AV} {mm : Nat} {c : ik} {l2 : List AV} (M : Mk az U r k kind text n m at_ ks) (A : ef r L az U) (hm : 0 < mm) (hl : l2.length = mm) (hb : ks.length + mm <= 4294967296)
 (h : ∀ ad, Mk az ad r k kind text n m at_ (ks ++ l2) -> ef r L az ad -> aj R (.box k 0) ad) : ae K 103 [.box k 0, .vec mm c l2] U R := by
 refine HO ?_
 obtain ⟨kv, h1, h2, h3, h4⟩ := M.box
 simp only [HN, cH, ag, aU, eK h1, py, List.drop, bD, ck]
 refine FG h2 rfl (by simp [hl]) hm hb (fun e => h4 (tN.1 e)) fun bM v' g1 e1 n1 => ?_
 have k1 : bM.box k = some (py kind text n m at_ kv) := by
  cases e : U.live k with
  | none => exact absurd e (dy h1)
  | some x =>
    have := e1 k x (fun n' l' hv => by
     rcases h2 with ⟨_, _, h2⟩ | ⟨τ, h2, ht, _⟩
     · rw [h2] at hv; cases hv
     · rw [h2] at hv; cases hv; exact eh h1 ht rfl) e
    rw [eU (this.trans e.symm)]; exact h1
 have A1 : ef r L az bM := by
  have key : ∀ b x, az.live b = some x -> U.live b = some x -> bM.live b = some x := fun b x hx hy => e1 b x (fun n' l' hv => by rw [h3 _ _ _ hv] at hx; cases hx) hy
  refine ⟨?_, fun b x XF hx => key b x hx (A.ex b x XF hx)⟩
  cases e : U.live r with
  | none => exact absurd e (dy A.box)
  | some x =>
    have := e1 r x (fun n' l' hv => by
     rcases h2 with ⟨_, _, h2⟩ | ⟨τ, h2, ht, _⟩
     · rw [h2] at hv; cases hv
     · rw [h2] at hv; cases hv; exact eh A.box ht rfl) e
    rw [eU (this.trans e.symm)]; exact A.box
 rw [dh k1]
 have bX : v' ≠ .aq := by
  rcases g1 with ⟨h0, _, _⟩ | ⟨τ, e, _⟩
  · omega
  · rw [e]; simp
 have cr : v'.cr = true /\ au v' = [v'] := by
  rcases g1 with ⟨h0, _, _⟩ | ⟨τ, e, _⟩
  · omega
  · rw [e]; exact ⟨rfl, rfl⟩
 refine ⟨⟨cr.1, by rw [cr.2]; rfl, by simp [py]⟩, (h _ ⟨⟨v', ?_, ?_, fun n' ra l' hv => ?_, fun e => ?_⟩, M.new, M.ne⟩ ⟨by rw [aP M.ne.symm]; exact A1.box, A1.ex.set (.inl M.new)⟩)⟩
 · rw [aZ, cr.2]; rfl
 · rw [eG, hl]
   rcases g1 with h0 | ⟨τ, e, ht, hl⟩
   · exact .inl h0
   · exact .inr ⟨τ, e, by rw [gn (eh k1 ht).symm]; exact ht, hl⟩
 · rcases n1 n' ra l' hv with hx | ⟨n2, YM, hx⟩
   · cases e : az.live ra with
     | none => rfl
     | some x =>
       by_cases U6 : ra = r
       · subst U6; exact absurd hx (dy A.box)
       · have := A.ex ra x U6 e; rw [hx] at this; cases this
   · exact h3 _ _ _ hx
 · have : l2 = [] := (List.append_eq_nil_iff.1 e).2
   subst this; simp at hl; omega
theorem ON {L : List AV} {mm : Nat} {c : ik} {l2 : List AV} (M : Mk az U r k kind text n m at_ ks) (A : ef r L az U) (hm : 0 < mm) (hl : l2.length = mm) (hb : ks.length + mm <= 4294967296)
 (h : ∀ ad, Mk az ad r k kind text n m at_ (ks ++ l2) -> ef r L az ad -> R (.ret (.box k 0)) ad) : ae K 103 [.box k 0, .vec mm c l2] U R := DZ M A hm hl hb fun ad M A => aj.mk (h ad M A)
theorem Mk.done {l : List AV} {ns : List Nd} (M : Mk az U r k kind text n m at_ ks) (hk : dq true ks ns) (A : ef r l az U) (h : ∀ a ad, dq false [a] (node kind text n m at_ ns) -> ef r l az ad -> R (.ret a) ad) : aj R (.box k 0) U := by
 obtain ⟨kv, h1, h2, h3, h4⟩ := M.box
 refine ⟨_, _, jQ.freeze h1, h _ _ (.mk hk ?_) ⟨by rw [gi M.ne.symm]; exact A.box, A.ex.del (.inl M.new)⟩⟩
 rcases h2 with ⟨e1, e2, e3⟩ | ⟨τ, e, _, _⟩
 · exact .inl ⟨e2, e3⟩
 · exact .inr ⟨_, e⟩
end
end
end Go.Rip
namespace Go.Rip
open Go.Proofs Go.RowKit
structure Out (X : Rx) (r : Nat) (az : St) (R : cm -> St -> Prop) (p : PR (List Nd)) : Prop where
 ok : ∀ ns j, p = .ok ns j -> j <= X.L.length -> ∀ a ad, dq false [a] ns -> ef r (rd X j) az ad -> R (.ret a) ad
 bad : ∀ j, p = .bad j -> ∀ ad, ef r (rd X j) az ad -> R (.panic (De X j)) ad
def Ct (X : Rx) (f : FuncId) (i : Nat) (p : PR (List Nd)) : Prop := ∀ (r : Nat) (U : St) (R : cm -> St -> Prop), U.box r = some (rd X i) -> Out X r U R p -> ae K f [.box r 0] U R
structure Sk (X : Rx) (az : St) (r k i : Nat) (kind : Int) (text : aW) (n m at_ : Int) (l : List Nd) (U : St) : Prop where
 A : ef r (rd X i) az U
 hi : i <= X.L.length
 M : ∃ ks, Mk az U r k kind text n m at_ ks /\ dq true ks l /\ ks.length <= i
section
variable {X : Rx} {az U : St} {r k i : Nat} {kind : Int} {text : aW} {n m at_ : Int} {l : List Nd} {R : cm -> St -> Prop} {K' : AV -> St -> Prop} {Kp : AV -> St -> Prop} {w : aW} {f : FuncId}
theorem Sk.fp (S : Sk X az r k i kind text n m at_ l U) {ad : St} {j : Nat} (A : ef r (rd X j) U ad) (hj : j <= X.L.length) (eJ : i <= j) : Sk X az r k j kind text n m at_ l ad := by
 obtain ⟨ks, h1, h2, h3⟩ := S.M
 exact ⟨S.A.trans A, hj, ks, h1.fp A S.A.box, h2, by omega⟩
theorem Out.fp {ad : St} {p : PR (List Nd)} {L : List AV} (O : Out X r U R p) (A : ef r L U ad) : Out X r ad R p :=
 ⟨fun ns j h hj a bN k A2 => O.ok ns j h hj a bN k (A.trans A2), fun j h bN A2 => O.bad j h bN (A.trans A2)⟩
theorem fo (hr : U.box r = some (rd X i)) (hi : i <= X.L.length) {kind : Int} (h : ∀ k ad, Sk X U r k i kind [] 0 0 (dR X.L X.E i) [] ad -> K' (.box k 0) ad) : ae K 99 [.box r 0, .int .u8 kind] U (al K' Kp) :=
 Ok hr kind fun k ad M A => h k ad ⟨A, hi, [], M, .nil, by simp⟩
theorem dB {q : Unit -> Nat -> PR (List Nd)} (S : Sk X az r k i kind text n m at_ l U) (O : Out X r az R ((bY X.L w i).bind q)) (h : ∀ ad, Sk X az r k (i + 1) kind text n m at_ l ad -> Out X r az R (q () (i + 1)) -> K' (.aL []) ad) : ae K 102 [.box r 0, .str w] U (al K' (aa R)) :=
 yj S.A.box S.hi w (fun e hl ad A => h ad (S.fp A hl (by omega)) (by rw [e] at O; exact O)) fun e ad A => O.bad _ (by rw [e]; rfl) _ (S.A.trans A)
theorem lX {q : aW -> Nat -> PR (List Nd)} (S : Sk X az r k i kind text n m at_ l U) (O : Out X r az R ((gJ X.L i).bind q)) (h : ∀ x ad, Sk X az r k (i + 1) kind text n m at_ l ad -> Out X r az R (q x (i + 1)) -> K' (.str x) ad) : ae K 101 [.box r 0] U (al K' (aa R)) :=
 N6 S.A.box S.hi (fun x e hl ad A => h x ad (S.fp A hl (by omega)) (by rw [e] at O; exact O)) fun e ad A => O.bad _ (by rw [e]; rfl) _ (S.A.trans A)
theorem ny {q : Int -> Nat -> PR (List Nd)} (S : Sk X az r k i kind text n m at_ l U) (O : Out X r az R ((jh X.L i).bind q)) (h : ∀ x ad, Sk X az r k (i + 1) kind text n m at_ l ad -> Out X r az R (q x (i + 1)) -> K' (.int .i64 x) ad) : ae K 168 [.box r 0] U (al K' (aa R)) :=
 Hq S.A.box S.hi (fun x e hl ad A => h x ad (S.fp A hl (by omega)) (by rw [e] at O; exact O)) fun e ad A => O.bad _ (by rw [e]; rfl) _ (S.A.trans A)
theorem xl (S : Sk X az r k i kind text n m at_ l U) (h1 : bW X.L i w = true -> ∀ ad, Sk X az r k (i + 1) kind text n m at_ l ad -> K' (.bool true) ad) (h2 : bW X.L i w = false -> ∀ ad, Sk X az r k i kind text n m at_ l ad -> K' (.bool false) ad) : ae K 100 [.box r 0, .str w] U (al K' Kp) :=
 Bv S.A.box S.hi w (fun e ad A => h1 e ad (S.fp A (cG e) (by omega))) fun e ad A => h2 e ad (S.fp (.nQ S.A.box A) S.hi (by omega))
theorem RS (S : Sk X az r k i kind text n m at_ l U) (h : ∀ b ad, bW X.L i w = b -> Sk X az r k i kind text n m at_ l ad -> K' (.bool b) ad) :
 (aD (some (9, 1)) (some [AV.str []]) 1 false [(0, .str w)]).wp K U (fun v U => ae K 105 [.box r 0, v] U (al K' Kp)) Kp := by
 rw [fG]
 refine ⟨by omega, ?_⟩
 rw [ee (o := 0) (s := 1) rfl]
 refine ⟨⟨rfl, rfl, by simp [bp]⟩, ?_⟩
 rw [gw]
 refine ⟨rfl, ?_⟩
 refine EM (l := [w]) S.A.box S.hi (by simp) fun bM e1 => ?_
 exact h _ _ (by rw [uB]) (S.fp (.nQ S.A.box e1) S.hi (by omega))
theorem lY {x : aW} (S : Sk X az r k i kind text n m at_ l U) (h : ∀ ad, Sk X az r k i kind x n m at_ l ad -> K' (.aL []) ad) : (aM (some (false, 1)) (.box k 1) (.str x) U).wp K U K' Kp := by
 obtain ⟨ks, h1, h2, h3⟩ := S.M
 exact h1.tY (fun kv => ⟨rfl, rfl, by simp [py], rfl⟩) S.A fun ad M A => h ad ⟨A, S.hi, ks, M, h2, h3⟩
theorem Oy {x : Int} (S : Sk X az r k i kind text n m at_ l U) (h : ∀ ad, Sk X az r k i x text n m at_ l ad -> K' (.aL []) ad) : (aM (some (false, 1)) (.box k 0) (.int .u8 x) U).wp K U K' Kp := by
 obtain ⟨ks, h1, h2, h3⟩ := S.M
 exact h1.tY (fun kv => ⟨rfl, rfl, by simp [py], rfl⟩) S.A fun ad M A => h ad ⟨A, S.hi, ks, M, h2, h3⟩
theorem Fx {x : Int} (S : Sk X az r k i kind text n m at_ l U) (h : ∀ ad, Sk X az r k i kind text x m at_ l ad -> K' (.aL []) ad) : (aM (some (false, 1)) (.box k 2) (.int .i64 x) U).wp K U K' Kp := by
 obtain ⟨ks, h1, h2, h3⟩ := S.M
 exact h1.tY (fun kv => ⟨rfl, rfl, by simp [py], rfl⟩) S.A fun ad M A => h ad ⟨A, S.hi, ks, M, h2, h3⟩
theorem WN {x : Int} (S : Sk X az r k i kind text n m at_ l U) (h : ∀ ad, Sk X az r k i kind text n x at_ l ad -> K' (.aL []) ad) : (aM (some (false, 1)) (.box k 3) (.int .i64 x) U).wp K U K' Kp := by
 obtain ⟨ks, h1, h2, h3⟩ := S.M
 exact h1.tY (fun kv => ⟨rfl, rfl, by simp [py], rfl⟩) S.A fun ad M A => h ad ⟨A, S.hi, ks, M, h2, h3⟩
theorem BZ {a : AV} {ns : List Nd} {j : Nat} (S : Sk X az r k j kind text n m at_ l U) (hj : ∀ ks, Mk az U r k kind text n m at_ ks -> dq true ks l -> ks.length <= j -> ∃ ks', Mk az U r k kind text n m at_ ks' /\ dq true ks' l /\ ks'.length + 1 <= j) (hk : dq false [a] ns) (h : ∀ ad, Sk X az r k j kind text n m at_ (l ++ ns) ad -> K' (.box k 0) ad) :
 (aD (some (87, 1)) (some [AV.aR]) 1 false [(0, a)]).wp K U (fun v U => ae K 103 [.box k 0, v] U (al K' (aa R))) (aa R) := by
 have ha : a.cr = true /\ au a = [a] := by
  generalize hb : false = b at hk
  generalize hl : [a] = la at hk
  cases hk with
  | mk _ _ => cases hl; exact ⟨rfl, rfl⟩
  | nil => cases hl
  | cons _ _ => cases hb
 rw [fG]
 refine ⟨by omega, ?_⟩
 rw [ee (o := 0) (s := 1) rfl]
 refine ⟨⟨ha.1, by rw [ha.2]; rfl, by simp [bp]⟩, ?_⟩
 rw [gw]
 rw [ha.2]
 refine ⟨rfl, ?_⟩
 obtain ⟨Vj, g1, g2, g3⟩ := S.M
 obtain ⟨ks, h1, h2, h3⟩ := hj Vj g1 g2 g3
 have := X.small
 have hi := S.hi
 refine ON (l2 := [a]) h1 S.A (by omega) rfl (by omega) fun ad M A => ?_
 exact h ad ⟨A, S.hi, _, M, h2.snoc hk, by simp; omega⟩
theorem jr {p : PR (List Nd)} {q : List Nd -> Nat -> PR (List Nd)} (S : Sk X az r k i kind text n m at_ l U) (C : Ct X f i p) (hp : Gd X.L.length (i + 1) i p) (O : Out X r az R (p.bind q))
 (h : ∀ ns j ad, j <= X.L.length -> i < j -> Sk X az r k j kind text n m at_ (l ++ ns) ad -> Out X r az R (q ns j) -> K' (.box k 0) ad) :
 ae K f [.box r 0] U (al (fun v U => (aD (some (87, 1)) (some [AV.aR]) 1 false [(0, v)]).wp K U (fun v U => ae K 103 [.box k 0, v] U (al K' (aa R))) (aa R)) (aa R)) := by
 refine C r U _ S.A.box ⟨fun ns j e hj a ad hk A => ?_, fun j e ad A => O.bad j (by rw [e]; rfl) ad (S.A.trans A)⟩
 rw [e] at hp O
 have eJ : i < j := hp.1
 have S1 := S.fp A hj (by omega)
 refine BZ S1 (fun ks _ _ _ => ?_) hk fun bN S2 => h ns j bN hj eJ S2 O
 obtain ⟨ks, h1, h2, h3⟩ := S.M
 exact ⟨ks, h1.fp A S.A.box, h2, by omega⟩
theorem dV (S : Sk X az r k i kind text n m at_ l U) (O : Out X r az R (.ok (node kind text n m at_ l) i)) : aj R (.box k 0) U := by
 obtain ⟨ks, h1, h2, h3⟩ := S.M
 exact h1.done h2 S.A fun a ad hk A => O.ok _ _ rfl S.hi a ad hk A
theorem wY : aa (al K' Kp) = Kp := rfl
theorem Aa {gd : FuncId} (he : cX K.P gd = true) {c : List AV} : (eT K.P (.func (.func gd) [.box r 0] []) []).wp K U K' Kp = ae K gd [.box r 0] U (al K' Kp) := by
 simp [eT, he]
theorem N3 {one : Nat -> PR (List Nd)} {gd : FuncId} (he : cX K.P gd = true) (C : ∀ i, i <= X.L.length -> Ct X gd i (one i)) (hg : ∀ i, i <= X.L.length -> Gd X.L.length (i + 1) i (one i))
 {fu : Nat} (hf : X.L.length - i <= fu) (h0 : 0 < fu) {q : List Nd -> Nat -> PR (List Nd)} (S : Sk X az r k i kind text n m at_ l U) (O : Out X r az R ((ux X.L one fu i).bind q))
 (h : ∀ ns j ad, j <= X.L.length -> i < j -> Sk X az r k j kind text n m at_ (l ++ ns) ad -> Out X r az R (q ns j) -> K' (.aL []) ad) : ae K 106 [.box r 0, .box k 0, .func (.func gd) [.box r 0] []] U (al K' (aa R)) := by
 refine zt ?_
 unfold BV
 rw [Aa he (c := [])]
 have e : (ux X.L one fu i).bind q = (one i).bind fun a j => (n7 X.L one fu a j).bind q := by
  unfold ux; cases one i <;> rfl
 rw [e] at O
 simp only [wY]
 refine jr S (C i S.hi) (hg i S.hi) O fun ns j bM hj eJ S1 O1 => ?_
 refine ⟨fun mm v0 v1 v2 ad => ∃ acc j f', mm = X.L.length - j /\ v0 = .box r 0 /\ v1 = .box k 0 /\ v2 = .func (.func gd) [.box r 0] [] /\ j <= X.L.length /\ i < j /\ X.L.length - j < f' /\ Sk X az r k j kind text n m at_ (l ++ acc) ad /\ Out X r az R ((n7 X.L one f' acc j).bind q),
  ⟨_, ns, j, fu, rfl, rfl, rfl, rfl, hj, eJ, by omega, S1, O1⟩, ?_⟩
 rintro mm v0 v1 v2 bN ⟨acc, j2, f', rfl, rfl, rfl, rfl, oG, x9, Qs, S2, O2⟩
 cases f' with
 | zero => omega
 | succ f' =>
   unfold n7 at O2
   refine xl S2 (fun hw cC S3 => ?_) (fun hw cC S3 => ?_)
   · simp only [bm]
     rw [if_pos hw] at O2
     have aH := cG hw
     rw [Aa he (c := [])]
     have e2 : ((one (j2 + 1)).bind fun b j => n7 X.L one f' (acc ++ b) j).bind q = (one (j2 + 1)).bind fun b j => (n7 X.L one f' (acc ++ b) j).bind q := by
      cases one (j2 + 1) <;> rfl
     rw [e2] at O2
     refine jr S3 (C _ aH) (hg _ aH) O2 fun Re j3 cU Qy VZ S4 O4 => ?_
     refine ⟨_, ?_, acc ++ Re, j3, f', rfl, rfl, rfl, rfl, Qy, by omega, by omega, by rw [<- oY]; exact S4, O4⟩
     omega
   · simp only [aX]
     rw [if_neg (by rw [hw]; simp)] at O2
     exact aj.mk (h acc j2 cC oG x9 S3 O2)
end
end Go.Rip
