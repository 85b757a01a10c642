/- Lemmas for the proof: no conditions. -/
import Derived.Test.YtnfpmiiopiinbaaGreatDoorRipZz
import Derived.Test.YtnfpmiiopiinbaaGreatDoorRipM
import Derived.Test.YtnfpmiiopiinbaaGreatDoorRipF
import Derived.Test.YtnfpmiiopiinbaaGreatDoorRipG
import Derived.Test.YtnfpmiiopiinbaaGreatDoorRipH
import Derived.Test.YtnfpmiiopiinbaaGreatDoorRipE
set_option linter.unusedVariables false
set_option linter.unusedSimpArgs false
set_option linter.loopingSimpArgs false
namespace Go.Rip
open Go.RowKit
structure Rx where
 L : List Tk
 E : Nat
 tv : AV
 tr : eh tv L.length (gL L)
 ok : ∀ t ∈ L, qF t
 small : L.length <= 900
def rd (X : Rx) (i : Nat) : List AV := [X.tv, .int .i64 i, .int .i64 X.E, Ei, td]
def Ga (X : Rx) (i : Nat) : AV := .iface 136 (.agg [.int .i64 (eX X.L X.E i)])
theorem eh.len {v : AV} {n : Nat} {cs : List AV} (h : eh v n cs) : bz (some false) v = .val (.int .i64 n) := by
 rcases h with ⟨rfl, rfl, rfl⟩ | ⟨c, rfl⟩ <;> rfl
theorem eh.at {v : AV} {n : Nat} {cs : List AV} (h : eh v n cs) {sz e j : Nat} (hj : j < n) : ∃ c, v = .vec n c cs /\ aF (some (e, sz)) none v (.int .i64 (j : Int)) = .cond (0 <= (j : Int) /\ (j : Int) < n) (.val (.ck (cs.drop (j * sz)))) := by
 rcases h with ⟨rfl, rfl, rfl⟩ | ⟨c, rfl⟩
 · omega
 · exact ⟨c, rfl, by simp⟩
theorem sx : ∀ i, closed (K.vS i) = true := fun i => by
 show closed (if i = 0 then .ck sZ else if i = 7 then .ck tD else .any) = true
 split
 · kernel_rfl
 · split
   · kernel_rfl
   · rfl
theorem Pure.of {f : Nat} {args : List AV} {x : AV} (hargs : bV args = true) (hx : closed x = true) (hr : ∀ U, resolve 5 U x = x)
 (h : ∀ R : cD -> St -> Prop, (∀ ae, R (.ret x) ae) -> af K f args (bD ⟨.e, 0⟩) R) : Pure K f args x :=
 Pure.xh sx hargs hx 5 (h _ fun ae => ⟨x, rfl, hr ae⟩)
def idx (l : List bh) (s : bh) : Int := match l.findIdx? (· = s) with | some i => i | none => -1
theorem HC (c : iQ) (l : List bh) (s : bh) (hn : l.length <= 100000) : Pure K 230 [.vec l.length c (l.map .str), .str s] (.int .i64 (idx l s)) := by
 intro U R hR
 refine MX ?_
 simp only [MW, o3, ah]
 refine ⟨fun m v0 v1 v7 v8 ae => ∃ i : Nat, m = l.length - i /\ i <= l.length /\ v0 = .vec l.length c (l.map .str) /\ v1 = .str s /\ v7 = .int .i64 l.length /\ v8 = .int .i64 i /\ ae = U /\ ∀ j, j < i -> l[j]? ≠ some s, ⟨l.length, 0, by simp [Fn.app]⟩, ?_⟩
 intro m v0 v1 v7 v8 ae hI
 obtain ⟨i, rfl, hi, rfl, rfl, rfl, rfl, rfl, fT⟩ := hI
 simp only [bg, ah, aY]
 refine ⟨fun aJ => ?_, fun fJ => ?_⟩
 · have aJ : i < l.length := by omega
   have hd : (l.map AV.str).drop (i * 1) = .str l[i] :: (l.map AV.str).drop (i + 1) := by
    rw [Nat.mul_one, gy (by simpa using aJ)]; simp
   simp only [vp, wp_cond, ah, dR, hd, rS, dB, iB, aY]
   refine ⟨by omega, fun he => ?_, fun bW => ?_⟩
   · refine ak.eq hR ?_
     have : l.findIdx? (· = s) = some i := by
      rw [Em]
      refine ⟨aJ, by simp [he], fun j hj => ?_⟩
      have := fT j hj
      rw [js (by omega)] at this
      simpa using this
     simp [idx, this]
   · simp only [jH, dC, wp_cond, ah]
     refine ⟨aS (by omega) (by omega), ?_⟩
     refine ⟨l.length - (i + 1), by omega, i + 1, rfl, by omega, rfl, rfl, rfl, by simp, rfl, fun j hj => ?_⟩
     · rcases eM j i with h | h
       · exact fT j h
       · have : j = i := by omega
         subst this
         rw [js aJ]; simpa using fun h => bW h.symm
 · refine ak.eq hR ?_
   have : l.findIdx? (· = s) = none := by
    rw [List.findIdx?_eq_none_iff]
    intro x hx
    obtain ⟨j, hj, rfl⟩ := List.getElem_of_mem hx
    have := fT j (by omega)
    rw [js hj] at this
    simpa using this
   simp [idx, this]
section
variable {X : Rx} {r i : Nat} {U : St} {R : cD -> St -> Prop}
theorem Ej (hr : U.box r = some (rd X i)) (h : R (.ret (.int .i64 (eX X.L X.E i))) U) : af K 164 [.box r 0] U R := by
 refine L6 ?_
 simp only [L5, dw, av, aV, ld hr, rd, List.drop, dB, X.tr.len, bg, aY, ah, cr]
 refine ⟨fun aJ => ?_, fun fJ => ?_⟩
 · have aJ : i < X.L.length := by omega
   obtain ⟨c, hv, mD⟩ := X.tr.at (sz := 3) (e := 51) aJ
   obtain ⟨t, ht⟩ : ∃ t, X.L[i]? = some t := ⟨X.L[i], by simp [aJ]⟩
   obtain ⟨rest, hd⟩ := Bc ht
   simp only [mD, fN, av, hd, dA, rS, nh, kf, ik, List.drop, dB]
   refine ⟨by omega, ak.mk ?_⟩
   have : eX X.L X.E i = t.at_ := by simp [eX, ht]
   rw [<- this]; exact h
 · refine ak.mk ?_
   have : eX X.L X.E i = X.E := by simp [eX, mN (show X.L.length <= i by omega)]
   rw [<- this]; exact h
def oU : Option Tk -> List AV
 | some t => nh t
 | none => [.int .u8 0, .str [], .int .i64 0]
theorem nL (hr : U.box r = some (rd X i)) (hi : i <= X.L.length) (k : Nat) (hk : k <= 10) (h : ∀ ae, cL U ae -> R (.ret (.agg (oU X.L[i + k]?))) ae) : af K 167 [.box r 0, .int .i64 k] U R := by
 refine Mb ?_
 have hs := X.small
 simp only [Ma, mi]
 intro b hb
 have Vy := hb.cx hr
 have DE : (U.new b (.box [AV.int .u8 0, AV.str [], AV.int .i64 0])).box r = some (rd X i) := by rw [om Vy]; exact hr
 have eH : (U.new b (.box [AV.int .u8 0, AV.str [], AV.int .i64 0])).box b = some [AV.int .u8 0, AV.str [], AV.int .i64 0] := aN
 simp only [NV.at, dw, av, aV, ld DE, rd, List.drop, dB, X.tr.len, jH, dC, fN, bg, aY, ah, cr]
 refine ⟨aS (by omega) (by omega), fun aJ => ?_, fun fJ => ?_⟩
 · have aJ : i + k < X.L.length := by omega
   obtain ⟨c, hv, mD⟩ := X.tr.at (sz := 3) (e := 51) aJ
   obtain ⟨t, ht⟩ : ∃ t, X.L[i + k]? = some t := ⟨X.L[i + k], by simp [aJ]⟩
   obtain ⟨rest, hd⟩ := Bc ht
   rw [<- Int.natCast_add]
   simp only [mD, fN, av, hd, HV, wK eH, wp_cond, jG]
   refine ⟨aS (by omega) (by omega), by omega, by simp [nh], by simp [nh], ?_⟩
   rw [sF (JW (aT) 3 0)]
   refine ⟨by simp [aB, nh], ?_⟩
   refine ak.eq (h _ (((cL.refl U).new hb).set hb.1)) ?_
   simp [aB, nh, ht, oU]
 · simp only [dj, eW, ah, wK eH, wp_cond, jG]
   refine ⟨by simp, ?_⟩
   rw [sF (JW (aT) 3 0)]
   refine ⟨by simp [aB], ?_⟩
   refine ak.eq (h _ (((cL.refl U).new hb).set hb.1)) ?_
   simp [aB, mN (show X.L.length <= i + k by omega), oU]
def sH (o : Option Tk) (l : List bh) : Bool := match o with
 | some t => (t.k == 3 || t.k == 4) && decide (t.s ∈ l)
 | none => false
theorem HB (l : List bh) (s : bh) : decide (0 <= idx l s) = decide (s ∈ l) := by
 unfold idx
 split
 · rename_i j hj
   obtain ⟨h1, h2, _⟩ := Em.1 hj
   have : s ∈ l := by have := of_decide_eq_true h2; exact this ▸ pU h1
   simp [this]
 · rename_i hj
   rw [List.findIdx?_eq_none_iff] at hj
   have : s ∉ l := fun hm => by simpa using hj s hm
   simp [this]
theorem Ci (c : iQ) (l : List bh) (s : bh) (hn : l.length <= 100000) : Pure K 178 [.vec l.length c (l.map .str), .str s] (.bool (decide (s ∈ l))) := by
 intro U R hR
 refine Mh ?_
 refine (HC c l s hn).go ?_
 simp only [dT, ah]
 refine ak.eq hR ?_
 rw [HB]
theorem yx {c : iQ} (o : Option Tk) (l : List bh) (hn : l.length <= 100000) (h : ∀ ae, cL U ae -> R (.ret (.bool (sH o l))) ae) : af K 121 [.agg (oU o), .vec l.length c (l.map .str)] U R := by
 refine KW ?_
 have hl : ∃ k s a, oU o = [.int .u8 k, .str s, .int .i64 a] /\ sH o l = ((decide (k = 3) || decide (k = 4)) && decide (s ∈ l)) := by
  cases o with
  | none => exact ⟨0, [], 0, rfl, rfl⟩
  | some t => exact ⟨t.k, t.s, t.at_, rfl, by
     have e : ∀ m : Nat, (t.k == m) = decide ((t.k : Int) = (m : Int)) := fun m => by
      rw [lY]; simp; omega
     simp only [sH, e 3, e 4]; rfl⟩
 obtain ⟨k, s, a, e1, e2⟩ := hl
 rw [e1]
 simp only [KV, Bp _ (OL _), wp_cond, true_and, IN, mi]
 intro b_ hb
 have eH : (U.new b_ (.box [.int .u8 k, .str s, .int .i64 a])).box b_ = some [.int .u8 k, .str s, .int .i64 a] := aN
 have hx := h _ ((cL.refl U).new (x := .box [.int .u8 k, .str s, .int .i64 a]) hb)
 rw [e2] at hx
 simp only [NV.at, aV, ah, ld eH, List.drop, dB, aX, aI, aC, jB, cr]
 have zw := Ci c l s hn
 have step : ∀ b : Bool, ((decide (k = 3) || decide (k = 4)) && decide (s ∈ l)) = b -> ak R (.bool b) (U.new b_ (.box [.int .u8 k, .str s, .int .i64 a])) := fun b e => by subst e; exact ak.mk hx
 by_cases h3 : k = 3
 · subst h3
   simp [ld eH]
   exact ⟨_, zw, step _ (by simp)⟩
 · by_cases h4 : k = 4
   · subst h4
     simp [ld eH]
     exact ⟨_, zw, step _ (by simp)⟩
   · simp [ld eH, h3, h4]
     exact step _ (by simp [h3, h4])
theorem Fj (s w : bh) : decide (s ∈ [w]) = (s == w) := by
 by_cases h : s = w
 · simp [h]
 · simp [h]
theorem xi (L : List Tk) (i : Nat) (w : bh) : sH L[i]? [w] = cP L i w := by
 unfold sH cP
 split
 · rename_i t ht; rw [ht, Fj]
 · rename_i ht; rw [ht]
theorem HI {c : iQ} (hr : U.box r = some (rd X i)) (hi : i <= X.L.length) (l : List bh) (hn : l.length <= 100000) (h : ∀ ae, cL U ae -> R (.ret (.bool (sH X.L[i]? l))) ae) : af K 105 [.box r 0, .vec l.length c (l.map .str)] U R := by
 refine KS ?_
 refine nL hr hi 0 (by omega) fun bJ e1 => ?_
 refine yx (X.L[i]?) l hn fun bP e2 => ?_
 exact ak.mk (h _ (e1.trans e2))
theorem D7 (hr : U.box r = some (rd X i)) (hi : i <= X.L.length) (w : bh)
 (h1 : cP X.L i w = true -> ∀ ae, fg r (rd X (i + 1)) U ae -> R (.ret (.bool true)) ae) (h2 : cP X.L i w = false -> ∀ ae, cL U ae -> R (.ret (.bool false)) ae) : af K 100 [.box r 0, .str w] U R := by
 refine KL ?_
 have hs := X.small
 simp only [KK, aO, eW, Br, ON, bK, wp_cond, ah, aB, List.take, List.drop, ik, kf, iy]
 refine ⟨by omega, by simp, by simp, ?_⟩
 refine HI (l := [w]) hr hi (by simp) fun bJ e1 => ?_
 have DE := e1.bj hr
 simp only [bA, c8, ah, xi]
 cases hw : cP X.L i w with
 | false => simp only [dt, bf]; exact ak.mk (h2 hw _ e1)
 | true =>
   simp only [ca, aW, dw, ah, aV, ld DE, rd, List.drop, dB, cr, jH, dC, wp_cond, wK DE, jG]
   refine ⟨aS (by omega) (by omega), by simp, ak.mk (h1 hw _ ⟨?_, (e1.I6 (r := r)).set (.inr rfl)⟩)⟩
   rw [aT]; simp [aB, rd]
theorem F8 (hr : U.box r = some (rd X i)) (h : R (.panic (Ga X i)) U) : af K 166 [.box r 0] U R := by
 refine L9 ?_
 refine Ej hr ?_
 simp only [bA, dj, eW, Bq, OM, wp_cond, ah, aB, oA, if_true, oD, P9]
 refine ⟨by simp, ?_⟩
 exact h
theorem AT (hr : U.box r = some (rd X i)) (hi : i <= X.L.length) (w : bh)
 (h1 : cS X.L w i = .ok () (i + 1) -> i + 1 <= X.L.length -> ∀ ae, fg r (rd X (i + 1)) U ae -> R (.ret (.aR [])) ae) (h2 : cS X.L w i = .bad i -> ∀ ae, fg r (rd X i) U ae -> R (.panic (Ga X i)) ae) : af K 102 [.box r 0, .str w] U R := by
 refine KN ?_
 refine D7 hr hi w (fun hw bJ a1 => ?_) (fun hw bJ e1 => ?_)
 · simp only [bA, c8, ah, ca, aW]
   exact ak.mk (h1 (by simp [cS, hw]) (dv hw) _ a1)
 · simp only [bA, c8, ah, dt, bf]
   exact F8 (e1.bj hr) (h2 (by simp [cS, hw]) _ (.p6 hr e1))
theorem si (o : Option Tk) : ∃ k : Int, ∃ s a, oU o = [.int .u8 k, .str s, .int .i64 a] /\ (∀ m : Nat, 0 < m -> (k = (m : Int) ↔ ∃ t, o = some t /\ t.k = m /\ t.s = s)) := by
 cases o with
 | none => exact ⟨0, [], 0, rfl, fun m hm => ⟨fun h => by omega, fun ⟨t, h, _⟩ => by cases h⟩⟩
 | some t => exact ⟨t.k, t.s, t.at_, rfl, fun m hm => ⟨fun h => ⟨t, rfl, by omega, rfl⟩, fun ⟨u, h, h2, h3⟩ => by cases h; omega⟩⟩
theorem Km (hr : U.box r = some (rd X i)) (hi : i <= X.L.length) (k : Nat) (hk : 0 < k)
 (h1 : ∀ t, X.L[i]? = some t -> t.k = k -> i + 1 <= X.L.length -> ∀ ae, fg r (rd X (i + 1)) U ae -> R (.ret (.str t.s)) ae) (h2 : (∀ t, X.L[i]? = some t -> t.k ≠ k) -> ∀ ae, fg r (rd X i) U ae -> R (.panic (Ga X i)) ae) : af K 165 [.box r 0, .int .u8 k] U R := by
 refine L7 ?_
 have hs := X.small
 refine nL hr hi 0 (by omega) fun bJ e1 => ?_
 have DE := e1.bj hr
 obtain ⟨m, s, a, e, hm⟩ := si X.L[i + 0]?
 rw [e]
 simp only [bA, mi]
 intro b hb
 have Vy := hb.cx DE
 have e2 := e1.new (x := .box [AV.int .u8 0, AV.str [], AV.int .i64 0]) hb
 have eH : (bJ.new b (.box [AV.int .u8 0, AV.str [], AV.int .i64 0])).box b = some [AV.int .u8 0, AV.str [], AV.int .i64 0] := aN
 simp only [NV.at, wK eH, wp_cond, jG]
 refine ⟨by simp, ?_⟩
 have e3 := e2.set (x := .box (aB [AV.int .u8 0, AV.str [], AV.int .i64 0] 0 (ay (.agg [.int .u8 m, .str s, .int .i64 a])))) (e1.fresh hb.1)
 generalize lE : (bJ.new b (.box [AV.int .u8 0, AV.str [], AV.int .i64 0])).set b (.box (aB [AV.int .u8 0, AV.str [], AV.int .i64 0] 0 (ay (.agg [.int .u8 m, .str s, .int .i64 a])))) = cJ at e3 ⊢
 have iD : cJ.box b = some [.int .u8 m, .str s, .int .i64 a] := by rw [<- lE, aT]; rfl
 have xS := e3.bj hr
 intro j hj
 simp only [aV, ah, ld iD, List.drop, dB, cr, cM, aq, Bool.not_eq_true', decide_eq_false_iff_not, Bool.not_eq_false', c7]
 refine ⟨fun bW => ?_, fun heq => ?_⟩
 · refine F8 xS ?_
   exact h2 (fun t ht he => bW ((hm k hk).2 ⟨t, ht, he, by rw [Nat.add_zero, ht] at e; cases e; rfl⟩)) _ (.p6 hr e3)
 · obtain ⟨t, ht, nY, rM⟩ := (hm k hk).1 heq
   have aJ := (dF.1 ht).1
   refine hj _ _ _ ?_
   simp only [dw, ah, aV, ld xS, rd, List.drop, dB, cr, jH, dC, wp_cond, wK xS, jG]
   refine ⟨aS (by omega) (by omega), by simp, ?_⟩
   rw [jG]
   generalize DP : cJ.set r _ = cu
   have lR : cu.box b = some [.int .u8 m, .str s, .int .i64 a] := by rw [<- DP, aP (Ne.symm Vy)]; exact iD
   have hr4 : cu.box r = some (rd X (i + 1)) := by rw [<- DP, aT]; simp [aB, rd]
   have e4 : il r U cu := by rw [<- DP]; exact (e3.I6 (r := r)).set (.inr rfl)
   simp only [ld lR, List.drop, dB, ah]
   refine ak.mk ?_
   rw [<- rM]
   exact h1 t ht nY aJ _ ⟨hr4, e4⟩
theorem Sb (hr : U.box r = some (rd X i)) (hi : i <= X.L.length)
 (h1 : ∀ x, jo X.L i = .ok x (i + 1) -> i + 1 <= X.L.length -> ∀ ae, fg r (rd X (i + 1)) U ae -> R (.ret (.str x)) ae) (h2 : jo X.L i = .bad i -> ∀ ae, fg r (rd X i) U ae -> R (.panic (Ga X i)) ae) : af K 101 [.box r 0] U R := by
 refine KM ?_
 refine Km hr hi 1 (by omega) (fun t ht hk hl bJ a1 => ?_) (fun hn bJ a1 => ?_)
 · exact ak.mk (h1 t.s (by simp [jo, ht, hk]) hl _ a1)
 · refine h2 ?_ _ a1
   unfold jo
   split
   · rename_i t ht; rw [if_neg (hn t ht)]
   · rfl
end
end Go.Rip
namespace Go.Rip
open Go.Proofs Go.RowKit
theorem Pure.Kj {f : FuncId} {args : List AV} {vs : List Value} {x : AV} {v : Value} (hargs : ∀ g us, aE g args us -> us = vs) (hx : ∀ g, az g x v)
 (h : ∀ w, Calls K.P f vs.toArray w fun e w' => e = .returned v /\ w.grownBy w' none) : Pure K f args x := by
 intro U R hR g w us hs hG ha
 have := hargs g us ha
 subst this
 refine callsIn_wide.2 ((h w).mono fun e w' ⟨h1, h2⟩ => ?_)
 subst h1
 exact ⟨g, U, x, Gh.Le.refl g, hs.grow h2, hx g, hR⟩
theorem Ff (w : World) (e : TypeId) (s : ByteArray) : w.grownBy (Lib.bytesWorld w e s) none := by
 have bW : ∀ q, q < w.heap.size -> w.heap.size ≠ q := fun q h => by omega
 unfold Lib.bytesWorld World.freeze
 split
 · exact ⟨rfl, rfl, rfl, by simp [World.alloc, World.drew, -World.alloc_eq, -World.drew_eq], fun q hq _ => by simp [World.alloc, World.drew, -World.alloc_eq, -World.drew_eq, Array.getElem?_push, Nat.ne_of_lt hq]⟩
 · refine ⟨rfl, rfl, rfl, by simp [World.alloc, World.drew, -World.alloc_eq, -World.drew_eq], fun q hq _ => ?_⟩
   simp [World.alloc, World.drew, -World.alloc_eq, -World.drew_eq, Array.getElem?_modify, Array.getElem?_push, bW q hq, Nat.ne_of_lt hq]
theorem IH (s : bh) (h0 : s ≠ []) (h : ja s = 0) : Pure K 218 [.str s] (.aR [.int .i64 (ub s), .cW]) := by
 obtain ⟨h1, h2, _⟩ := Kg h0 h
 refine Pure.Kj (vs := [.string ⟨s.toArray⟩]) (v := .tuple #[.int .i64 (ub s), .nilIface]) (fun g us hr => OZ hr) (fun g => by simp [az, aE]) fun w => ?_
 refine (Tryz.strconv_Atoi ⟨s.toArray⟩ (ub s) (by show s.toArray.size <= 18; simp; omega) (NX h0 (GF h).1) w).mono fun e w' ⟨he, t, hw⟩ => ⟨he, ?_⟩
 subst hw
 exact Ff _ _ _
section
variable {X : Rx} {r i : Nat} {U : St} {R : cD -> St -> Prop}
theorem Kh (hr : U.box r = some (rd X i)) (hi : i <= X.L.length)
 (h1 : ∀ x, kJ X.L i = .ok x (i + 1) -> i + 1 <= X.L.length -> ∀ ae, fg r (rd X (i + 1)) U ae -> R (.ret (.int .i64 x)) ae) (h2 : kJ X.L i = .bad i -> ∀ ae, fg r (rd X i) U ae -> R (.panic (Ga X i)) ae) : af K 168 [.box r 0] U R := by
 refine Mc ?_
 refine Km hr hi 2 (by omega) (fun t ht hk hl bJ a1 => ?_) (fun hn bJ a1 => ?_)
 · have cF := X.ok t (fO ht)
   refine (IH t.s cF.1 (Sg cF hk)).go ?_
   simp only [cz, List.drop, dB, ah, aj, if_true]
   intro j hj
   simp only [and_self, if_true, ah, aW]
   exact hj _ _ (ak.mk (h1 _ (by simp [kJ, ht, hk]) hl _ a1))
 · refine h2 ?_ _ a1
   unfold kJ
   split
   · rename_i t ht; rw [if_neg (hn t ht)]
   · rfl
def rO (kind : Int) (text : bh) (n m at_ : Int) (kv : AV) : List AV := [.int .u8 kind, .str text, .int .i64 n, .int .i64 m, .int .i64 at_, .int .i64 0, kv]
def Grow (U : St) (v : AV) (e : TypeId) (sz n : Nat) (l : List AV) : Prop := (n = 0 /\ l = [] /\ v = .al) \/ ∃ τ, v = .vec n (.own τ) l /\ U.tok τ = some ⟨n, e, sz⟩ /\ l.length = n * sz
def SV (aG : St) (v : AV) : Prop := ∀ n τ l, v = .vec n (.own τ) l -> aG.live τ = none
theorem Iy {e sz n m : Nat} {v y : AV} {l l2 : List AV} {K' : AV -> St -> Prop} {Kp : AV -> St -> Prop} (hg : Grow U v e sz n l) (hy : pc U y = some (m, l2)) (hl : l2.length = m * sz) (hm : 0 < m) (hb : n + m <= 4294967296) (h0 : n = 0 -> v = .al)
 (h : ∀ ae v', Grow ae v' e sz (n + m) (l ++ l2) -> (∀ b x, (∀ n l, v ≠ .vec n (.own b) l) -> U.live b = some x -> ae.live b = some x) -> (∀ n τ l, v' = .vec n (.own τ) l -> U.live τ = none \/ ∃ n l, v = .vec n (.own τ) l) -> K' v' ae) : (dM (some (e, sz)) false v y U).wp K U K' Kp := by
 rcases hg with ⟨rfl, rfl, rfl⟩ | ⟨τ, rfl, ht, xR⟩
 · have Dw : m ≠ 0 := by omega
   simp only [dM, hy, if_neg Dw, bo, if_false, wp_cond]
   refine ⟨hl, by omega, fun b dm => ?_⟩
   refine h _ _ (.inr ⟨b, by simp [NV.at], by rw [cr]; exact uX, by simp [hl]⟩) (fun c x hc hx => (bE dm) c x hx) fun n τ l hv => ?_
   simp only [NV.at, AV.vec.injEq, iQ.own.injEq] at hv
   exact .inl (hv.2.1 ▸ dm.1)
 · have wc : n ≠ 0 := fun e => by have := h0 e; cases this
   simp only [dM, hy, wp_cond]
   refine ⟨hl, ⟨ht, xR, hb⟩, fun b dm => ?_⟩
   refine h _ _ (.inr ⟨b, rfl, uX, by simp [hl, xR, Nat.add_mul]⟩) (fun c x hc hx => ?_) fun n' rA l' hv => ?_
   · refine (bE dm) c x ?_
     have bW : c ≠ τ := fun e => hc n l (by rw [e])
     show (U.del τ).live c = some x
     rw [lU, if_neg bW]; exact hx
   · simp only [NV.at, AV.vec.injEq, iQ.own.injEq] at hv
     have hf := dm.1
     rw [<- hv.2.1]
     by_cases e : b = τ
     · subst e; exact .inr ⟨_, _, rfl⟩
     · left
       have : (U.del τ).live b = none := hf
       rw [lU, if_neg e] at this; exact this
structure Mk (aG U : St) (r k : Nat) (kind : Int) (text : bh) (n m at_ : Int) (ks : List AV) : Prop where
 box : ∃ kv, U.box k = some (rO kind text n m at_ kv) /\ Grow U kv 87 1 ks.length ks /\ SV aG kv /\ (ks = [] -> kv = .al)
 new : aG.live k = none
 ne : k ≠ r
inductive eA : Bool -> List AV -> List Nd -> Prop
 | mk {kind : Int} {text : bh} {n m at_ : Int} {kv : AV} {ks : List AV} {l : List Nd} : eA true ks l -> (ks = [] /\ kv = .al \/ ∃ c, kv = .vec ks.length c ks) -> eA false [.ck (rO kind text n m at_ kv)] (node kind text n m at_ l)
 | nil : eA true [] []
 | cons {a : AV} {ks : List AV} {l l' : List Nd} : eA false [a] l -> eA true ks l' -> eA true (a :: ks) (l ++ l')
theorem eA.snoc {ks : List AV} {l : List Nd} {a : AV} {l' : List Nd} (h : eA true ks l) (k : eA false [a] l') : eA true (ks ++ [a]) (l ++ l') := by
 generalize hb : true = b at h
 induction h with
 | mk _ _ _ => cases hb
 | nil => simpa using eA.cons k eA.nil
 | cons h1 h2 _ ih => rw [nI]; exact .cons h1 (ih rfl)
theorem eA.one {a : AV} {l : List Nd} (k : eA false [a] l) : eA true [a] l := by simpa using eA.cons k eA.nil
section
variable {X : Rx} {r i j k : Nat} {aG U ae : St} {R : cD -> St -> Prop} {kind : Int} {text : bh} {n m at_ : Int} {ks : List AV}
theorem Mk.gm {l : List AV} (M : Mk aG U r k kind text n m at_ ks) (a : fg r l U ae) {l' : List AV} (hr : U.box r = some l') : Mk aG ae r k kind text n m at_ ks := by
 obtain ⟨kv, h1, h2, h3, h4⟩ := M.box
 refine ⟨⟨kv, a.ex.bj M.ne h1, ?_, h3, h4⟩, M.new, M.ne⟩
 rcases h2 with h2 | ⟨τ, e, ht, hl⟩
 · exact .inl h2
 · exact .inr ⟨τ, e, a.ex.tok (ej hr ht).symm ht, hl⟩
theorem Mk.wK (M : Mk aG U r k kind text n m at_ ks) {o w : Nat} {v : AV} {QF : Int} {Rq : bh} {n' m' Uu : Int} {K' : AV -> St -> Prop} {Kp : AV -> St -> Prop} {t : Bool}
 (hs : ∀ kv, v.cQ = true /\ (ay v).length = w /\ o + w <= (rO kind text n m at_ kv).length /\ aB (rO kind text n m at_ kv) o (ay v) = rO QF Rq n' m' Uu kv)
 {L : List AV} (A : fg r L aG U)
 (h : ∀ ae, Mk aG ae r k QF Rq n' m' Uu ks -> fg r L aG ae -> K' (.aR []) ae) : (aL (some (t, w)) (.box k o) v U).wp K U K' Kp := by
 obtain ⟨kv, h1, h2, h3, h4⟩ := M.box
 obtain ⟨s1, s2, s3, s4⟩ := hs kv
 rw [cI h1, s4]
 refine ⟨⟨s1, s2, s3⟩, h _ ⟨⟨kv, aT, ?_, h3, h4⟩, M.new, M.ne⟩ ⟨by rw [aP M.ne.symm]; exact A.box, A.ex.set (.inl M.new)⟩⟩
 rcases h2 with h2 | ⟨τ, e, ht, hl⟩
 · exact .inl h2
 · exact .inr ⟨τ, e, by rw [gz (ej h1 ht).symm]; exact ht, hl⟩
theorem Sw (hr : U.box r = some (rd X i)) (kind : Int) (h : ∀ k ae, Mk U ae r k kind [] 0 0 (eX X.L X.E i) [] -> fg r (rd X i) U ae -> R (.ret (.box k 0)) ae) : af K 99 [.box r 0, .int .u8 kind] U R := by
 refine PA ?_
 refine Ej hr ?_
 refine oQ [.int .u8 kind, .str [], .int .i64 0, .int .i64 0, .int .i64 (eX X.L X.E i), .int .i64 0] rfl ?_
 refine oQ (rO kind [] 0 0 (eX X.L X.E i) .al) rfl ?_
 rw [ff rfl]
 intro b hb
 exact ak.mk (h b _ ⟨⟨_, aN, .inl ⟨rfl, rfl, rfl⟩, (fun _ _ _ e => by cases e), fun _ => rfl⟩, hb.1, (hb.cx hr).symm⟩ (.p6 hr ((cL.refl U).new hb)))
theorem G1 {L : List AV} {mm : Nat} {c : iQ} {l2 : List AV} (M : Mk aG U r k kind text n m at_ ks) (A : fg r L aG U) (hm : 0 < mm) (hl : l2.length = mm) (hb : ks.length + mm <= 4294967296)
 (h : ∀ ae, Mk aG ae r k kind text n m at_ (ks ++ l2) -> fg r L aG ae -> ak R (.box k 0) ae) : af K 103 [.box k 0, .vec mm c l2] U R := by
 refine KP ?_
 obtain ⟨kv, h1, h2, h3, h4⟩ := M.box
 simp only [KO, dw, ah, aV, fz h1, rO, List.drop, bM, cr]
 refine Iy h2 rfl (by simp [hl]) hm hb (fun e => h4 (oH.1 e)) fun bJ v' g1 e1 n1 => ?_
 have k1 : bJ.box k = some (rO kind text n m at_ kv) := by
  cases e : U.live k with
  | none => exact absurd e (de h1)
  | some x =>
    have := e1 k x (fun n' l' hv => by
     rcases h2 with ⟨_, _, h2⟩ | ⟨τ, h2, ht, _⟩
     · rw [h2] at hv; cases hv
     · rw [h2] at hv; cases hv; exact ej h1 ht rfl) e
    rw [gR (this.trans e.symm)]; exact h1
 have A1 : fg r L aG bJ := by
  have key : ∀ b x, aG.live b = some x -> U.live b = some x -> bJ.live b = some x := fun b x hx hy => e1 b x (fun n' l' hv => by rw [h3 _ _ _ hv] at hx; cases hx) hy
  refine ⟨?_, fun b x hbr hx => key b x hx (A.ex b x hbr hx)⟩
  cases e : U.live r with
  | none => exact absurd e (de A.box)
  | some x =>
    have := e1 r x (fun n' l' hv => by
     rcases h2 with ⟨_, _, h2⟩ | ⟨τ, h2, ht, _⟩
     · rw [h2] at hv; cases hv
     · rw [h2] at hv; cases hv; exact ej A.box ht rfl) e
    rw [gR (this.trans e.symm)]; exact A.box
 rw [cI k1]
 have bW : v' ≠ .al := by
  rcases g1 with ⟨h0, _, _⟩ | ⟨τ, e, _⟩
  · omega
  · rw [e]; simp
 have cQ : v'.cQ = true /\ ay v' = [v'] := by
  rcases g1 with ⟨h0, _, _⟩ | ⟨τ, e, _⟩
  · omega
  · rw [e]; exact ⟨rfl, rfl⟩
 refine ⟨⟨cQ.1, by rw [cQ.2]; rfl, by simp [rO]⟩, (h _ ⟨⟨v', ?_, ?_, fun n' rA l' hv => ?_, fun e => ?_⟩, M.new, M.ne⟩ ⟨by rw [aP M.ne.symm]; exact A1.box, A1.ex.set (.inl M.new)⟩)⟩
 · rw [aT, cQ.2]; rfl
 · rw [eU, hl]
   rcases g1 with h0 | ⟨τ, e, ht, hl⟩
   · exact .inl h0
   · exact .inr ⟨τ, e, by rw [gz (ej k1 ht).symm]; exact ht, hl⟩
 · rcases n1 n' rA l' hv with hx | ⟨n2, l2', hx⟩
   · cases e : aG.live rA with
     | none => rfl
     | some x =>
       by_cases ZK : rA = r
       · subst ZK; exact absurd hx (de A.box)
       · have := A.ex rA x ZK e; rw [hx] at this; cases this
   · exact h3 _ _ _ hx
 · have : l2 = [] := (List.append_eq_nil_iff.1 e).2
   subst this; simp at hl; omega
theorem SX {L : List AV} {mm : Nat} {c : iQ} {l2 : List AV} (M : Mk aG U r k kind text n m at_ ks) (A : fg r L aG U) (hm : 0 < mm) (hl : l2.length = mm) (hb : ks.length + mm <= 4294967296)
 (h : ∀ ae, Mk aG ae r k kind text n m at_ (ks ++ l2) -> fg r L aG ae -> R (.ret (.box k 0)) ae) : af K 103 [.box k 0, .vec mm c l2] U R := G1 M A hm hl hb fun ae M A => ak.mk (h ae M A)
theorem Mk.done {l : List AV} {ns : List Nd} (M : Mk aG U r k kind text n m at_ ks) (hk : eA true ks ns) (A : fg r l aG U) (h : ∀ a ae, eA false [a] (node kind text n m at_ ns) -> fg r l aG ae -> R (.ret a) ae) : ak R (.box k 0) U := by
 obtain ⟨kv, h1, h2, h3, h4⟩ := M.box
 refine ⟨_, _, lK.freeze h1, h _ _ (.mk hk ?_) ⟨by rw [jA M.ne.symm]; exact A.box, A.ex.del (.inl M.new)⟩⟩
 rcases h2 with ⟨e1, e2, e3⟩ | ⟨τ, e, _, _⟩
 · exact .inl ⟨e2, e3⟩
 · exact .inr ⟨_, e⟩
end
end
end Go.Rip
namespace Go.Rip
open Go.Proofs Go.RowKit
structure Out (X : Rx) (r : Nat) (aG : St) (R : cD -> St -> Prop) (p : PR (List Nd)) : Prop where
 ok : ∀ ns j, p = .ok ns j -> j <= X.L.length -> ∀ a ae, eA false [a] ns -> fg r (rd X j) aG ae -> R (.ret a) ae
 bad : ∀ j, p = .bad j -> ∀ ae, fg r (rd X j) aG ae -> R (.panic (Ga X j)) ae
def Ct (X : Rx) (f : FuncId) (i : Nat) (p : PR (List Nd)) : Prop := ∀ (r : Nat) (U : St) (R : cD -> St -> Prop), U.box r = some (rd X i) -> Out X r U R p -> af K f [.box r 0] U R
structure Sk (X : Rx) (aG : St) (r k i : Nat) (kind : Int) (text : bh) (n m at_ : Int) (l : List Nd) (U : St) : Prop where
 A : fg r (rd X i) aG U
 hi : i <= X.L.length
 M : ∃ ks, Mk aG U r k kind text n m at_ ks /\ eA true ks l /\ ks.length <= i
section
variable {X : Rx} {aG U : St} {r k i : Nat} {kind : Int} {text : bh} {n m at_ : Int} {l : List Nd} {R : cD -> St -> Prop} {K' : AV -> St -> Prop} {Kp : AV -> St -> Prop} {w : bh} {f : FuncId}
theorem Sk.gm (S : Sk X aG r k i kind text n m at_ l U) {ae : St} {j : Nat} (A : fg r (rd X j) U ae) (hj : j <= X.L.length) (fS : i <= j) : Sk X aG r k j kind text n m at_ l ae := by
 obtain ⟨ks, h1, h2, h3⟩ := S.M
 exact ⟨S.A.trans A, hj, ks, h1.gm A S.A.box, h2, by omega⟩
theorem Out.gm {ae : St} {p : PR (List Nd)} {L : List AV} (O : Out X r U R p) (A : fg r L U ae) : Out X r ae R p :=
 ⟨fun ns j h hj a bP k A2 => O.ok ns j h hj a bP k (A.trans A2), fun j h bP A2 => O.bad j h bP (A.trans A2)⟩
theorem gB (hr : U.box r = some (rd X i)) (hi : i <= X.L.length) {kind : Int} (h : ∀ k ae, Sk X U r k i kind [] 0 0 (eX X.L X.E i) [] ae -> K' (.box k 0) ae) : af K 99 [.box r 0, .int .u8 kind] U (ax K' Kp) :=
 Sw hr kind fun k ae M A => h k ae ⟨A, hi, [], M, .nil, by simp⟩
theorem eJ {q : Unit -> Nat -> PR (List Nd)} (S : Sk X aG r k i kind text n m at_ l U) (O : Out X r aG R ((cS X.L w i).bind q)) (h : ∀ ae, Sk X aG r k (i + 1) kind text n m at_ l ae -> Out X r aG R (q () (i + 1)) -> K' (.aR []) ae) : af K 102 [.box r 0, .str w] U (ax K' (aa R)) :=
 AT S.A.box S.hi w (fun e hl ae A => h ae (S.gm A hl (by omega)) (by rw [e] at O; exact O)) fun e ae A => O.bad _ (by rw [e]; rfl) _ (S.A.trans A)
theorem od {q : bh -> Nat -> PR (List Nd)} (S : Sk X aG r k i kind text n m at_ l U) (O : Out X r aG R ((jo X.L i).bind q)) (h : ∀ x ae, Sk X aG r k (i + 1) kind text n m at_ l ae -> Out X r aG R (q x (i + 1)) -> K' (.str x) ae) : af K 101 [.box r 0] U (ax K' (aa R)) :=
 Sb S.A.box S.hi (fun x e hl ae A => h x ae (S.gm A hl (by omega)) (by rw [e] at O; exact O)) fun e ae A => O.bad _ (by rw [e]; rfl) _ (S.A.trans A)
theorem pL {q : Int -> Nat -> PR (List Nd)} (S : Sk X aG r k i kind text n m at_ l U) (O : Out X r aG R ((kJ X.L i).bind q)) (h : ∀ x ae, Sk X aG r k (i + 1) kind text n m at_ l ae -> Out X r aG R (q x (i + 1)) -> K' (.int .i64 x) ae) : af K 168 [.box r 0] U (ax K' (aa R)) :=
 Kh S.A.box S.hi (fun x e hl ae A => h x ae (S.gm A hl (by omega)) (by rw [e] at O; exact O)) fun e ae A => O.bad _ (by rw [e]; rfl) _ (S.A.trans A)
theorem Ad (S : Sk X aG r k i kind text n m at_ l U) (h1 : cP X.L i w = true -> ∀ ae, Sk X aG r k (i + 1) kind text n m at_ l ae -> K' (.bool true) ae) (h2 : cP X.L i w = false -> ∀ ae, Sk X aG r k i kind text n m at_ l ae -> K' (.bool false) ae) : af K 100 [.box r 0, .str w] U (ax K' Kp) :=
 D7 S.A.box S.hi w (fun e ae A => h1 e ae (S.gm A (dv e) (by omega))) fun e ae A => h2 e ae (S.gm (.p6 S.A.box A) S.hi (by omega))
theorem WJ (S : Sk X aG r k i kind text n m at_ l U) (h : ∀ b ae, cP X.L i w = b -> Sk X aG r k i kind text n m at_ l ae -> K' (.bool b) ae) :
 (aO (some (9, 1)) (some [AV.str []]) 1 false [(0, .str w)]).wp K U (fun v U => af K 105 [.box r 0, v] U (ax K' Kp)) Kp := by
 rw [fC]
 refine ⟨by omega, ?_⟩
 rw [eO (o := 0) (s := 1) rfl]
 refine ⟨⟨rfl, rfl, by simp [bK]⟩, ?_⟩
 rw [gM]
 refine ⟨rfl, ?_⟩
 refine HI (l := [w]) S.A.box S.hi (by simp) fun bJ e1 => ?_
 exact h _ _ (by rw [xi]) (S.gm (.p6 S.A.box e1) S.hi (by omega))
theorem oe {x : bh} (S : Sk X aG r k i kind text n m at_ l U) (h : ∀ ae, Sk X aG r k i kind x n m at_ l ae -> K' (.aR []) ae) : (aL (some (false, 1)) (.box k 1) (.str x) U).wp K U K' Kp := by
 obtain ⟨ks, h1, h2, h3⟩ := S.M
 exact h1.wK (fun kv => ⟨rfl, rfl, by simp [rO], rfl⟩) S.A fun ae M A => h ae ⟨A, S.hi, ks, M, h2, h3⟩
theorem SH {x : Int} (S : Sk X aG r k i kind text n m at_ l U) (h : ∀ ae, Sk X aG r k i x text n m at_ l ae -> K' (.aR []) ae) : (aL (some (false, 1)) (.box k 0) (.int .u8 x) U).wp K U K' Kp := by
 obtain ⟨ks, h1, h2, h3⟩ := S.M
 exact h1.wK (fun kv => ⟨rfl, rfl, by simp [rO], rfl⟩) S.A fun ae M A => h ae ⟨A, S.hi, ks, M, h2, h3⟩
theorem It {x : Int} (S : Sk X aG r k i kind text n m at_ l U) (h : ∀ ae, Sk X aG r k i kind text x m at_ l ae -> K' (.aR []) ae) : (aL (some (false, 1)) (.box k 2) (.int .i64 x) U).wp K U K' Kp := by
 obtain ⟨ks, h1, h2, h3⟩ := S.M
 exact h1.wK (fun kv => ⟨rfl, rfl, by simp [rO], rfl⟩) S.A fun ae M A => h ae ⟨A, S.hi, ks, M, h2, h3⟩
theorem abf {x : Int} (S : Sk X aG r k i kind text n m at_ l U) (h : ∀ ae, Sk X aG r k i kind text n x at_ l ae -> K' (.aR []) ae) : (aL (some (false, 1)) (.box k 3) (.int .i64 x) U).wp K U K' Kp := by
 obtain ⟨ks, h1, h2, h3⟩ := S.M
 exact h1.wK (fun kv => ⟨rfl, rfl, by simp [rO], rfl⟩) S.A fun ae M A => h ae ⟨A, S.hi, ks, M, h2, h3⟩
theorem EB {a : AV} {ns : List Nd} {j : Nat} (S : Sk X aG r k j kind text n m at_ l U) (hj : ∀ ks, Mk aG U r k kind text n m at_ ks -> eA true ks l -> ks.length <= j -> ∃ ks', Mk aG U r k kind text n m at_ ks' /\ eA true ks' l /\ ks'.length + 1 <= j) (hk : eA false [a] ns) (h : ∀ ae, Sk X aG r k j kind text n m at_ (l ++ ns) ae -> K' (.box k 0) ae) :
 (aO (some (87, 1)) (some [AV.a8]) 1 false [(0, a)]).wp K U (fun v U => af K 103 [.box k 0, v] U (ax K' (aa R))) (aa R) := by
 have ha : a.cQ = true /\ ay a = [a] := by
  generalize hb : false = b at hk
  generalize hl : [a] = la at hk
  cases hk with
  | mk _ _ => cases hl; exact ⟨rfl, rfl⟩
  | nil => cases hl
  | cons _ _ => cases hb
 rw [fC]
 refine ⟨by omega, ?_⟩
 rw [eO (o := 0) (s := 1) rfl]
 refine ⟨⟨ha.1, by rw [ha.2]; rfl, by simp [bK]⟩, ?_⟩
 rw [gM]
 rw [ha.2]
 refine ⟨rfl, ?_⟩
 obtain ⟨ZX, g1, g2, g3⟩ := S.M
 obtain ⟨ks, h1, h2, h3⟩ := hj ZX g1 g2 g3
 have := X.small
 have hi := S.hi
 refine SX (l2 := [a]) h1 S.A (by omega) rfl (by omega) fun ae M A => ?_
 exact h ae ⟨A, S.hi, _, M, h2.snoc hk, by simp; omega⟩
theorem kP {p : PR (List Nd)} {q : List Nd -> Nat -> PR (List Nd)} (S : Sk X aG r k i kind text n m at_ l U) (C : Ct X f i p) (hp : Gd X.L.length (i + 1) i p) (O : Out X r aG R (p.bind q))
 (h : ∀ ns j ae, j <= X.L.length -> i < j -> Sk X aG r k j kind text n m at_ (l ++ ns) ae -> Out X r aG R (q ns j) -> K' (.box k 0) ae) :
 af K f [.box r 0] U (ax (fun v U => (aO (some (87, 1)) (some [AV.a8]) 1 false [(0, v)]).wp K U (fun v U => af K 103 [.box k 0, v] U (ax K' (aa R))) (aa R)) (aa R)) := by
 refine C r U _ S.A.box ⟨fun ns j e hj a ae hk A => ?_, fun j e ae A => O.bad j (by rw [e]; rfl) ae (S.A.trans A)⟩
 rw [e] at hp O
 have fS : i < j := hp.1
 have S1 := S.gm A hj (by omega)
 refine EB S1 (fun ks _ _ _ => ?_) hk fun bP S2 => h ns j bP hj fS S2 O
 obtain ⟨ks, h1, h2, h3⟩ := S.M
 exact ⟨ks, h1.gm A S.A.box, h2, by omega⟩
theorem fe (S : Sk X aG r k i kind text n m at_ l U) (O : Out X r aG R (.ok (node kind text n m at_ l) i)) : ak R (.box k 0) U := by
 obtain ⟨ks, h1, h2, h3⟩ := S.M
 exact h1.done h2 S.A fun a ae hk A => O.ok _ _ rfl S.hi a ae hk A
theorem zV : aa (ax K' Kp) = Kp := rfl
theorem CJ {iq : FuncId} (he : eg K.P iq = true) {c : List AV} : (gp K.P (.func (.func iq) [.box r 0] []) []).wp K U K' Kp = af K iq [.box r 0] U (ax K' Kp) := by
 simp [gp, he]
theorem R9 {one : Nat -> PR (List Nd)} {iq : FuncId} (he : eg K.P iq = true) (C : ∀ i, i <= X.L.length -> Ct X iq i (one i)) (hg : ∀ i, i <= X.L.length -> Gd X.L.length (i + 1) i (one i))
 {fu : Nat} (hf : X.L.length - i <= fu) (h0 : 0 < fu) {q : List Nd -> Nat -> PR (List Nd)} (S : Sk X aG r k i kind text n m at_ l U) (O : Out X r aG R ((xf X.L one fu i).bind q))
 (h : ∀ ns j ae, j <= X.L.length -> i < j -> Sk X aG r k j kind text n m at_ (l ++ ns) ae -> Out X r aG R (q ns j) -> K' (.aR []) ae) : af K 106 [.box r 0, .box k 0, .func (.func iq) [.box r 0] []] U (ax K' (aa R)) := by
 refine Cc ?_
 unfold Ev
 rw [CJ he (c := [])]
 have e : (xf X.L one fu i).bind q = (one i).bind fun a j => (qj X.L one fu a j).bind q := by
  unfold xf; cases one i <;> rfl
 rw [e] at O
 simp only [zV]
 refine kP S (C i S.hi) (hg i S.hi) O fun ns j bJ hj fS S1 O1 => ?_
 refine ⟨fun mm v0 v1 v2 ae => ∃ acc j f', mm = X.L.length - j /\ v0 = .box r 0 /\ v1 = .box k 0 /\ v2 = .func (.func iq) [.box r 0] [] /\ j <= X.L.length /\ i < j /\ X.L.length - j < f' /\ Sk X aG r k j kind text n m at_ (l ++ acc) ae /\ Out X r aG R ((qj X.L one f' acc j).bind q),
  ⟨_, ns, j, fu, rfl, rfl, rfl, rfl, hj, fS, by omega, S1, O1⟩, ?_⟩
 rintro mm v0 v1 v2 bP ⟨acc, j2, f', rfl, rfl, rfl, rfl, oR, AM, U6, S2, O2⟩
 cases f' with
 | zero => omega
 | succ f' =>
   unfold qj at O2
   refine Ad S2 (fun hw cJ S3 => ?_) (fun hw cJ S3 => ?_)
   · simp only [bf]
     rw [if_pos hw] at O2
     have aJ := dv hw
     rw [CJ he (c := [])]
     have e2 : ((one (j2 + 1)).bind fun b j => qj X.L one f' (acc ++ b) j).bind q = (one (j2 + 1)).bind fun b j => (qj X.L one f' (acc ++ b) j).bind q := by
      cases one (j2 + 1) <;> rfl
     rw [e2] at O2
     refine kP S3 (C _ aJ) (hg _ aJ) O2 fun V8 j3 cu Gi aay S4 O4 => ?_
     refine ⟨_, ?_, acc ++ V8, j3, f', rfl, rfl, rfl, rfl, Gi, by omega, by omega, by rw [<- nI]; exact S4, O4⟩
     omega
   · simp only [aW]
     rw [if_neg (by rw [hw]; simp)] at O2
     exact ak.mk (h acc j2 cJ oR AM S3 O2)
end
end Go.Rip
