/- Lemmas for the proof: no conditions. -/
import Derived.Test.YtnfpmiiopiinbaaGreatDoorRipZz
import Derived.Test.YtnfpmiiopiinbaaGreatDoorRipM
import Derived.Test.YtnfpmiiopiinbaaGreatDoorRipF
import Derived.Test.YtnfpmiiopiinbaaGreatDoorRipG
import Derived.Test.YtnfpmiiopiinbaaGreatDoorRipH
import Derived.Test.YtnfpmiiopiinbaaGreatDoorRipE
set_option linter.unusedVariables false
set_option linter.unusedSimpArgs false
set_option linter.loopingSimpArgs false
namespace Go.Rip
open Go.RowKit
structure Rx where
 L : List Tk
 E : Nat
 tv : AV
 tr : dX tv L.length (gx L)
 ok : ∀ t ∈ L, p4 t
 small : L.length <= 900
def rd (X : Rx) (i : Nat) : List AV := [X.tv, .int .i64 i, .int .i64 X.E, DE, sw]
def Fo (X : Rx) (i : Nat) : AV := .iface 136 (.agg [.int .i64 (eP X.L X.E i)])
theorem dX.len {v : AV} {n : Nat} {cs : List AV} (h : dX v n cs) : bw (some false) v = .val (.int .i64 n) := by
 rcases h with ⟨rfl, rfl, rfl⟩ | ⟨c, rfl⟩ <;> rfl
theorem dX.at {v : AV} {n : Nat} {cs : List AV} (h : dX v n cs) {sz e j : Nat} (hj : j < n) : ∃ c, v = .vec n c cs /\ aF (some (e, sz)) none v (.int .i64 (j : Int)) = .cond (0 <= (j : Int) /\ (j : Int) < n) (.val (.cj (cs.drop (j * sz)))) := by
 rcases h with ⟨rfl, rfl, rfl⟩ | ⟨c, rfl⟩
 · omega
 · exact ⟨c, rfl, by simp⟩
theorem wV : ∀ i, closed (K.u6 i) = true := fun i => by
 show closed (if i = 0 then .cj sk else if i = 7 then .cj sQ else .any) = true
 split
 · kernel_rfl
 · split
   · kernel_rfl
   · rfl
theorem Pure.of {f : Nat} {args : List AV} {x : AV} (hargs : bG args = true) (hx : closed x = true) (hr : ∀ U, resolve 5 U x = x)
 (h : ∀ R : cB -> St -> Prop, (∀ ae, R (.ret x) ae) -> af K f args (br ⟨.e, 0⟩) R) : Pure K f args x :=
 Pure.wz wV hargs hx 5 (h _ fun ae => ⟨x, rfl, hr ae⟩)
def idx (l : List bg) (s : bg) : Int := match l.findIdx? (· = s) with | some i => i | none => -1
theorem GS (c : iW) (l : List bg) (s : bg) (hn : l.length <= 100000) : Pure K 230 [.vec l.length c (l.map .str), .str s] (.int .i64 (idx l s)) := by
 intro U R hR
 refine Mb ?_
 simp only [Ma, oA, ai]
 refine ⟨fun m v0 v1 v7 v8 ae => ∃ i : Nat, m = l.length - i /\ i <= l.length /\ v0 = .vec l.length c (l.map .str) /\ v1 = .str s /\ v7 = .int .i64 l.length /\ v8 = .int .i64 i /\ ae = U /\ ∀ j, j < i -> l[j]? ≠ some s, ⟨l.length, 0, by simp [Fn.app]⟩, ?_⟩
 intro m v0 v1 v7 v8 ae hI
 obtain ⟨i, rfl, hi, rfl, rfl, rfl, rfl, rfl, fF⟩ := hI
 simp only [bj, ai, aW]
 refine ⟨fun aJ => ?_, fun gn => ?_⟩
 · have aJ : i < l.length := by omega
   have hd : (l.map AV.str).drop (i * 1) = .str l[i] :: (l.map AV.str).drop (i + 1) := by
    rw [Nat.mul_one, gp (by simpa using aJ)]; simp
   simp only [uF, wp_cond, ai, dC, hd, ri, dm, ic, aW]
   refine ⟨by omega, fun he => ?_, fun cm => ?_⟩
   · refine aj.eq hR ?_
     have : l.findIdx? (· = s) = some i := by
      rw [DI]
      refine ⟨aJ, by simp [he], fun j hj => ?_⟩
      have := fF j hj
      rw [iY (by omega)] at this
      simpa using this
     simp [idx, this]
   · simp only [js, dp, wp_cond, ai]
     refine ⟨aX (by omega) (by omega), ?_⟩
     refine ⟨l.length - (i + 1), by omega, i + 1, rfl, by omega, rfl, rfl, rfl, by simp, rfl, fun j hj => ?_⟩
     · rcases eG j i with h | h
       · exact fF j h
       · have : j = i := by omega
         subst this
         rw [iY aJ]; simpa using fun h => cm h.symm
 · refine aj.eq hR ?_
   have : l.findIdx? (· = s) = none := by
    rw [List.findIdx?_eq_none_iff]
    intro x hx
    obtain ⟨j, hj, rfl⟩ := List.getElem_of_mem hx
    have := fF j (by omega)
    rw [iY hj] at this
    simpa using this
   simp [idx, this]
section
variable {X : Rx} {r i : Nat} {U : St} {R : cB -> St -> Prop}
theorem DF (hr : U.box r = some (rd X i)) (h : R (.ret (.int .i64 (eP X.L X.E i))) U) : af K 164 [.box r 0] U R := by
 refine Ld ?_
 simp only [Lc, di, au, aV, ld hr, rd, List.drop, dm, X.tr.len, bj, aW, ai, cq]
 refine ⟨fun aJ => ?_, fun gn => ?_⟩
 · have aJ : i < X.L.length := by omega
   obtain ⟨c, hv, k9⟩ := X.tr.at (sz := 3) (e := 51) aJ
   obtain ⟨t, ht⟩ : ∃ t, X.L[i]? = some t := ⟨X.L[i], by simp [aJ]⟩
   obtain ⟨rest, hd⟩ := Ay ht
   simp only [k9, gD, au, hd, cQ, ri, mL, jb, jc, List.drop, dm]
   refine ⟨by omega, aj.mk ?_⟩
   have : eP X.L X.E i = t.at_ := by simp [eP, ht]
   rw [<- this]; exact h
 · refine aj.mk ?_
   have : eP X.L X.E i = X.E := by simp [eP, oD (show X.L.length <= i by omega)]
   rw [<- this]; exact h
def om : Option Tk -> List AV
 | some t => mL t
 | none => [.int .u8 0, .str [], .int .i64 0]
theorem nj (hr : U.box r = some (rd X i)) (hi : i <= X.L.length) (k : Nat) (hk : k <= 10) (h : ∀ ae, cH U ae -> R (.ret (.agg (om X.L[i + k]?))) ae) : af K 167 [.box r 0, .int .i64 k] U R := by
 refine Li ?_
 have hs := X.small
 simp only [Lh, lP]
 intro b hb
 have U8 := hb.cD hr
 have C3 : (U.new b (.box [AV.int .u8 0, AV.str [], AV.int .i64 0])).box r = some (rd X i) := by rw [nP U8]; exact hr
 have dK : (U.new b (.box [AV.int .u8 0, AV.str [], AV.int .i64 0])).box b = some [AV.int .u8 0, AV.str [], AV.int .i64 0] := aN
 simp only [NV.at, di, au, aV, ld C3, rd, List.drop, dm, X.tr.len, js, dp, gD, bj, aW, ai, cq]
 refine ⟨aX (by omega) (by omega), fun aJ => ?_, fun gn => ?_⟩
 · have aJ : i + k < X.L.length := by omega
   obtain ⟨c, hv, k9⟩ := X.tr.at (sz := 3) (e := 51) aJ
   obtain ⟨t, ht⟩ : ∃ t, X.L[i + k]? = some t := ⟨X.L[i + k], by simp [aJ]⟩
   obtain ⟨rest, hd⟩ := Ay ht
   rw [<- Int.natCast_add]
   simp only [k9, gD, au, hd, Hc, vT dK, wp_cond, jq]
   refine ⟨aX (by omega) (by omega), by omega, by simp [mL], by simp [mL], ?_⟩
   rw [rS (Je (bo) 3 0)]
   refine ⟨by simp [aH, mL], ?_⟩
   refine aj.eq (h _ (((cH.refl U).new hb).set hb.1)) ?_
   simp [aH, mL, ht, om]
 · simp only [c6, eO, ai, vT dK, wp_cond, jq]
   refine ⟨by simp, ?_⟩
   rw [rS (Je (bo) 3 0)]
   refine ⟨by simp [aH], ?_⟩
   refine aj.eq (h _ (((cH.refl U).new hb).set hb.1)) ?_
   simp [aH, oD (show X.L.length <= i + k by omega), om]
def rU (o : Option Tk) (l : List bg) : Bool := match o with
 | some t => (t.k == 3 || t.k == 4) && decide (t.s ∈ l)
 | none => false
theorem GR (l : List bg) (s : bg) : decide (0 <= idx l s) = decide (s ∈ l) := by
 unfold idx
 split
 · rename_i j hj
   obtain ⟨h1, h2, _⟩ := DI.1 hj
   have : s ∈ l := by have := of_decide_eq_true h2; exact this ▸ qE h1
   simp [this]
 · rename_i hj
   rw [List.findIdx?_eq_none_iff] at hj
   have : s ∉ l := fun hm => by simpa using hj s hm
   simp [this]
theorem BH (c : iW) (l : List bg) (s : bg) (hn : l.length <= 100000) : Pure K 178 [.vec l.length c (l.map .str), .str s] (.bool (decide (s ∈ l))) := by
 intro U R hR
 refine Lo ?_
 refine (GS c l s hn).go ?_
 simp only [dG, ai]
 refine aj.eq hR ?_
 rw [GR]
theorem xQ {c : iW} (o : Option Tk) (l : List bg) (hn : l.length <= 100000) (h : ∀ ae, cH U ae -> R (.ret (.bool (rU o l))) ae) : af K 121 [.agg (om o), .vec l.length c (l.map .str)] U R := by
 refine J4 ?_
 have hl : ∃ k s a, om o = [.int .u8 k, .str s, .int .i64 a] /\ rU o l = ((decide (k = 3) || decide (k = 4)) && decide (s ∈ l)) := by
  cases o with
  | none => exact ⟨0, [], 0, rfl, rfl⟩
  | some t => exact ⟨t.k, t.s, t.at_, rfl, by
     have e : ∀ m : Nat, (t.k == m) = decide ((t.k : Int) = (m : Int)) := fun m => by
      rw [lE]; simp; omega
     simp only [rU, e 3, e 4]; rfl⟩
 obtain ⟨k, s, a, e1, e2⟩ := hl
 rw [e1]
 simp only [J3, AK _ (NQ _), wp_cond, true_and, HU, lP]
 intro b_ hb
 have dK : (U.new b_ (.box [.int .u8 k, .str s, .int .i64 a])).box b_ = some [.int .u8 k, .str s, .int .i64 a] := aN
 have hx := h _ ((cH.refl U).new (x := .box [.int .u8 k, .str s, .int .i64 a]) hb)
 rw [e2] at hx
 simp only [NV.at, aV, ai, ld dK, List.drop, dm, aR, aI, aB, jk, cq]
 have Iz := BH c l s hn
 have step : ∀ b : Bool, ((decide (k = 3) || decide (k = 4)) && decide (s ∈ l)) = b -> aj R (.bool b) (U.new b_ (.box [.int .u8 k, .str s, .int .i64 a])) := fun b e => by subst e; exact aj.mk hx
 by_cases h3 : k = 3
 · subst h3
   simp [ld dK]
   exact ⟨_, Iz, step _ (by simp)⟩
 · by_cases h4 : k = 4
   · subst h4
     simp [ld dK]
     exact ⟨_, Iz, step _ (by simp)⟩
   · simp [ld dK, h3, h4]
     exact step _ (by simp [h3, h4])
theorem Et (s w : bg) : decide (s ∈ [w]) = (s == w) := by
 by_cases h : s = w
 · simp [h]
 · simp [h]
theorem wA (L : List Tk) (i : Nat) (w : bg) : rU L[i]? [w] = cC L i w := by
 unfold rU cC
 split
 · rename_i t ht; rw [ht, Et]
 · rename_i ht; rw [ht]
theorem GZ {c : iW} (hr : U.box r = some (rd X i)) (hi : i <= X.L.length) (l : List bg) (hn : l.length <= 100000) (h : ∀ ae, cH U ae -> R (.ret (.bool (rU X.L[i]? l))) ae) : af K 105 [.box r 0, .vec l.length c (l.map .str)] U R := by
 refine J0 ?_
 refine nj hr hi 0 (by omega) fun bT e1 => ?_
 refine xQ (X.L[i]?) l hn fun bR e2 => ?_
 exact aj.mk (h _ (e1.trans e2))
theorem Dt (hr : U.box r = some (rd X i)) (hi : i <= X.L.length) (w : bg)
 (h1 : cC X.L i w = true -> ∀ ae, eX r (rd X (i + 1)) U ae -> R (.ret (.bool true)) ae) (h2 : cC X.L i w = false -> ∀ ae, cH U ae -> R (.ret (.bool false)) ae) : af K 100 [.box r 0, .str w] U R := by
 refine JV ?_
 have hs := X.small
 simp only [JU, aM, eO, AM, NS, bN, wp_cond, ai, aH, List.take, List.drop, jc, jb, ja]
 refine ⟨by omega, by simp, by simp, ?_⟩
 refine GZ (l := [w]) hr hi (by simp) fun bT e1 => ?_
 have C3 := e1.bL hr
 simp only [bu, cJ, ai, wA]
 cases hw : cC X.L i w with
 | false => simp only [cZ, bf]; exact aj.mk (h2 hw _ e1)
 | true =>
   simp only [bU, aU, di, ai, aV, ld C3, rd, List.drop, dm, cq, js, dp, wp_cond, vT C3, jq]
   refine ⟨aX (by omega) (by omega), by simp, aj.mk (h1 hw _ ⟨?_, (e1.H6 (r := r)).set (.inr rfl)⟩)⟩
   rw [bo]; simp [aH, rd]
theorem Fl (hr : U.box r = some (rd X i)) (h : R (.panic (Fo X i)) U) : af K 166 [.box r 0] U R := by
 refine Lg ?_
 refine DF hr ?_
 simp only [bu, c6, eO, AL, NR, wp_cond, ai, aH, tJ, if_true, qA, Ps]
 refine ⟨by simp, ?_⟩
 exact h
theorem Aj (hr : U.box r = some (rd X i)) (hi : i <= X.L.length) (w : bg)
 (h1 : cE X.L w i = .ok () (i + 1) -> i + 1 <= X.L.length -> ∀ ae, eX r (rd X (i + 1)) U ae -> R (.ret (.aO [])) ae) (h2 : cE X.L w i = .bad i -> ∀ ae, eX r (rd X i) U ae -> R (.panic (Fo X i)) ae) : af K 102 [.box r 0, .str w] U R := by
 refine JX ?_
 refine Dt hr hi w (fun hw bT a1 => ?_) (fun hw bT e1 => ?_)
 · simp only [bu, cJ, ai, bU, aU]
   exact aj.mk (h1 (by simp [cE, hw]) (df hw) _ a1)
 · simp only [bu, cJ, ai, cZ, bf]
   exact Fl (e1.bL hr) (h2 (by simp [cE, hw]) _ (.px hr e1))
theorem rA (o : Option Tk) : ∃ k : Int, ∃ s a, om o = [.int .u8 k, .str s, .int .i64 a] /\ (∀ m : Nat, 0 < m -> (k = (m : Int) ↔ ∃ t, o = some t /\ t.k = m /\ t.s = s)) := by
 cases o with
 | none => exact ⟨0, [], 0, rfl, fun m hm => ⟨fun h => by omega, fun ⟨t, h, _⟩ => by cases h⟩⟩
 | some t => exact ⟨t.k, t.s, t.at_, rfl, fun m hm => ⟨fun h => ⟨t, rfl, by omega, rfl⟩, fun ⟨u, h, h2, h3⟩ => by cases h; omega⟩⟩
theorem JA (hr : U.box r = some (rd X i)) (hi : i <= X.L.length) (k : Nat) (hk : 0 < k)
 (h1 : ∀ t, X.L[i]? = some t -> t.k = k -> i + 1 <= X.L.length -> ∀ ae, eX r (rd X (i + 1)) U ae -> R (.ret (.str t.s)) ae) (h2 : (∀ t, X.L[i]? = some t -> t.k ≠ k) -> ∀ ae, eX r (rd X i) U ae -> R (.panic (Fo X i)) ae) : af K 165 [.box r 0, .int .u8 k] U R := by
 refine Lf ?_
 have hs := X.small
 refine nj hr hi 0 (by omega) fun bT e1 => ?_
 have C3 := e1.bL hr
 obtain ⟨m, s, a, e, hm⟩ := rA X.L[i + 0]?
 rw [e]
 simp only [bu, lP]
 intro b hb
 have U8 := hb.cD C3
 have e2 := e1.new (x := .box [AV.int .u8 0, AV.str [], AV.int .i64 0]) hb
 have dK : (bT.new b (.box [AV.int .u8 0, AV.str [], AV.int .i64 0])).box b = some [AV.int .u8 0, AV.str [], AV.int .i64 0] := aN
 simp only [NV.at, vT dK, wp_cond, jq]
 refine ⟨by simp, ?_⟩
 have e3 := e2.set (x := .box (aH [AV.int .u8 0, AV.str [], AV.int .i64 0] 0 (aA (.agg [.int .u8 m, .str s, .int .i64 a])))) (e1.fresh hb.1)
 generalize lg : (bT.new b (.box [AV.int .u8 0, AV.str [], AV.int .i64 0])).set b (.box (aH [AV.int .u8 0, AV.str [], AV.int .i64 0] 0 (aA (.agg [.int .u8 m, .str s, .int .i64 a])))) = c8 at e3 ⊢
 have gY : c8.box b = some [.int .u8 m, .str s, .int .i64 a] := by rw [<- lg, bo]; rfl
 have xd := e3.bL hr
 intro j hj
 simp only [aV, ai, ld gY, List.drop, dm, cq, bS, al, Bool.not_eq_true', decide_eq_false_iff_not, Bool.not_eq_false', cL]
 refine ⟨fun cm => ?_, fun heq => ?_⟩
 · refine Fl xd ?_
   exact h2 (fun t ht he => cm ((hm k hk).2 ⟨t, ht, he, by rw [Nat.add_zero, ht] at e; cases e; rfl⟩)) _ (.px hr e3)
 · obtain ⟨t, ht, nB, sE⟩ := (hm k hk).1 heq
   have aJ := (dy.1 ht).1
   refine hj _ _ _ ?_
   simp only [di, ai, aV, ld xd, rd, List.drop, dm, cq, js, dp, wp_cond, vT xd, jq]
   refine ⟨aX (by omega) (by omega), by simp, ?_⟩
   rw [jq]
   generalize Db : c8.set r _ = dq
   have o5 : dq.box b = some [.int .u8 m, .str s, .int .i64 a] := by rw [<- Db, aY (Ne.symm U8)]; exact gY
   have hr4 : dq.box r = some (rd X (i + 1)) := by rw [<- Db, bo]; simp [aH, rd]
   have e4 : gU r U dq := by rw [<- Db]; exact (e3.H6 (r := r)).set (.inr rfl)
   simp only [ld o5, List.drop, dm, ai]
   refine aj.mk ?_
   rw [<- sE]
   exact h1 t ht nB aJ _ ⟨hr4, e4⟩
theorem RJ (hr : U.box r = some (rd X i)) (hi : i <= X.L.length)
 (h1 : ∀ x, iV X.L i = .ok x (i + 1) -> i + 1 <= X.L.length -> ∀ ae, eX r (rd X (i + 1)) U ae -> R (.ret (.str x)) ae) (h2 : iV X.L i = .bad i -> ∀ ae, eX r (rd X i) U ae -> R (.panic (Fo X i)) ae) : af K 101 [.box r 0] U R := by
 refine JW ?_
 refine JA hr hi 1 (by omega) (fun t ht hk hl bT a1 => ?_) (fun hn bT a1 => ?_)
 · exact aj.mk (h1 t.s (by simp [iV, ht, hk]) hl _ a1)
 · refine h2 ?_ _ a1
   unfold iV
   split
   · rename_i t ht; rw [if_neg (hn t ht)]
   · rfl
end
end Go.Rip
namespace Go.Rip
open Go.Proofs Go.RowKit
theorem Pure.Jy {f : FuncId} {args : List AV} {vs : List Value} {x : AV} {v : Value} (hargs : ∀ g us, aD g args us -> us = vs) (hx : ∀ g, aw g x v)
 (h : ∀ w, Calls K.P f vs.toArray w fun e w' => e = .returned v /\ w.grownBy w' none) : Pure K f args x := by
 intro U R hR g w us hs hG ha
 have := hargs g us ha
 subst this
 refine callsIn_wide.2 ((h w).mono fun e w' ⟨h1, h2⟩ => ?_)
 subst h1
 exact ⟨g, U, x, Gh.Le.refl g, hs.grow h2, hx g, hR⟩
theorem En (w : World) (e : TypeId) (s : ByteArray) : w.grownBy (Lib.bytesWorld w e s) none := by
 have cm : ∀ q, q < w.heap.size -> w.heap.size ≠ q := fun q h => by omega
 unfold Lib.bytesWorld World.freeze
 split
 · exact ⟨rfl, rfl, rfl, by simp [World.alloc, World.drew, -World.alloc_eq, -World.drew_eq], fun q hq _ => by simp [World.alloc, World.drew, -World.alloc_eq, -World.drew_eq, Array.getElem?_push, Nat.ne_of_lt hq]⟩
 · refine ⟨rfl, rfl, rfl, by simp [World.alloc, World.drew, -World.alloc_eq, -World.drew_eq], fun q hq _ => ?_⟩
   simp [World.alloc, World.drew, -World.alloc_eq, -World.drew_eq, Array.getElem?_modify, Array.getElem?_push, cm q hq, Nat.ne_of_lt hq]
theorem HO (s : bg) (h0 : s ≠ []) (h : iC s = 0) : Pure K 218 [.str s] (.aO [.int .i64 (tj s), .cI]) := by
 obtain ⟨h1, h2, _⟩ := Jv h0 h
 refine Pure.Jy (vs := [.string ⟨s.toArray⟩]) (v := .tuple #[.int .i64 (tj s), .nilIface]) (fun g us hr => N6 hr) (fun g => by simp [aw, aD]) fun w => ?_
 refine (Tryz.strconv_Atoi ⟨s.toArray⟩ (tj s) (by show s.toArray.size <= 18; simp; omega) (MY h0 (FP h).1) w).mono fun e w' ⟨he, t, hw⟩ => ⟨he, ?_⟩
 subst hw
 exact En _ _ _
section
variable {X : Rx} {r i : Nat} {U : St} {R : cB -> St -> Prop}
theorem Jw (hr : U.box r = some (rd X i)) (hi : i <= X.L.length)
 (h1 : ∀ x, ki X.L i = .ok x (i + 1) -> i + 1 <= X.L.length -> ∀ ae, eX r (rd X (i + 1)) U ae -> R (.ret (.int .i64 x)) ae) (h2 : ki X.L i = .bad i -> ∀ ae, eX r (rd X i) U ae -> R (.panic (Fo X i)) ae) : af K 168 [.box r 0] U R := by
 refine Lj ?_
 refine JA hr hi 2 (by omega) (fun t ht hk hl bT a1 => ?_) (fun hn bT a1 => ?_)
 · have cA := X.ok t (fB ht)
   refine (HO t.s cA.1 (RO cA hk)).go ?_
   simp only [bK, List.drop, dm, ai, ak, if_true]
   intro j hj
   simp only [and_self, if_true, ai, aU]
   exact hj _ _ (aj.mk (h1 _ (by simp [ki, ht, hk]) hl _ a1))
 · refine h2 ?_ _ a1
   unfold ki
   split
   · rename_i t ht; rw [if_neg (hn t ht)]
   · rfl
def q9 (kind : Int) (text : bg) (n m at_ : Int) (kv : AV) : List AV := [.int .u8 kind, .str text, .int .i64 n, .int .i64 m, .int .i64 at_, .int .i64 0, kv]
def Grow (U : St) (v : AV) (e : TypeId) (sz n : Nat) (l : List AV) : Prop := (n = 0 /\ l = [] /\ v = .ax) \/ ∃ τ, v = .vec n (.own τ) l /\ U.tok τ = some ⟨n, e, sz⟩ /\ l.length = n * sz
def Sv (aE : St) (v : AV) : Prop := ∀ n τ l, v = .vec n (.own τ) l -> aE.live τ = none
theorem HG {e sz n m : Nat} {v y : AV} {l l2 : List AV} {K' : AV -> St -> Prop} {Kp : AV -> St -> Prop} (hg : Grow U v e sz n l) (hy : pn U y = some (m, l2)) (hl : l2.length = m * sz) (hm : 0 < m) (hb : n + m <= 4294967296) (h0 : n = 0 -> v = .ax)
 (h : ∀ ae v', Grow ae v' e sz (n + m) (l ++ l2) -> (∀ b x, (∀ n l, v ≠ .vec n (.own b) l) -> U.live b = some x -> ae.live b = some x) -> (∀ n τ l, v' = .vec n (.own τ) l -> U.live τ = none \/ ∃ n l, v = .vec n (.own τ) l) -> K' v' ae) : (eJ (some (e, sz)) false v y U).wp K U K' Kp := by
 rcases hg with ⟨rfl, rfl, rfl⟩ | ⟨τ, rfl, ht, IA⟩
 · have ID : m ≠ 0 := by omega
   simp only [eJ, hy, if_neg ID, bm, if_false, wp_cond]
   refine ⟨hl, by omega, fun b dA => ?_⟩
   refine h _ _ (.inr ⟨b, by simp [NV.at], by rw [cq]; exact zx, by simp [hl]⟩) (fun c x hc hx => (bH dA) c x hx) fun n τ l hv => ?_
   simp only [NV.at, AV.vec.injEq, iW.own.injEq] at hv
   exact .inl (hv.2.1 ▸ dA.1)
 · have yT : n ≠ 0 := fun e => by have := h0 e; cases this
   simp only [eJ, hy, wp_cond]
   refine ⟨hl, ⟨ht, IA, hb⟩, fun b dA => ?_⟩
   refine h _ _ (.inr ⟨b, rfl, zx, by simp [hl, IA, Nat.add_mul]⟩) (fun c x hc hx => ?_) fun n' tb l' hv => ?_
   · refine (bH dA) c x ?_
     have cm : c ≠ τ := fun e => hc n l (by rw [e])
     show (U.del τ).live c = some x
     rw [na, if_neg cm]; exact hx
   · simp only [NV.at, AV.vec.injEq, iW.own.injEq] at hv
     have hf := dA.1
     rw [<- hv.2.1]
     by_cases e : b = τ
     · subst e; exact .inr ⟨_, _, rfl⟩
     · left
       have : (U.del τ).live b = none := hf
       rw [na, if_neg e] at this; exact this
structure Mk (aE U : St) (r k : Nat) (kind : Int) (text : bg) (n m at_ : Int) (ks : List AV) : Prop where
 box : ∃ kv, U.box k = some (q9 kind text n m at_ kv) /\ Grow U kv 87 1 ks.length ks /\ Sv aE kv /\ (ks = [] -> kv = .ax)
 new : aE.live k = none
 ne : k ≠ r
inductive ek : Bool -> List AV -> List Nd -> Prop
 | mk {kind : Int} {text : bg} {n m at_ : Int} {kv : AV} {ks : List AV} {l : List Nd} : ek true ks l -> (ks = [] /\ kv = .ax \/ ∃ c, kv = .vec ks.length c ks) -> ek false [.cj (q9 kind text n m at_ kv)] (node kind text n m at_ l)
 | nil : ek true [] []
 | cons {a : AV} {ks : List AV} {l l' : List Nd} : ek false [a] l -> ek true ks l' -> ek true (a :: ks) (l ++ l')
theorem ek.snoc {ks : List AV} {l : List Nd} {a : AV} {l' : List Nd} (h : ek true ks l) (k : ek false [a] l') : ek true (ks ++ [a]) (l ++ l') := by
 generalize hb : true = b at h
 induction h with
 | mk _ _ _ => cases hb
 | nil => simpa using ek.cons k ek.nil
 | cons h1 h2 _ ih => rw [qD]; exact .cons h1 (ih rfl)
theorem ek.one {a : AV} {l : List Nd} (k : ek false [a] l) : ek true [a] l := by simpa using ek.cons k ek.nil
section
variable {X : Rx} {r i j k : Nat} {aE U ae : St} {R : cB -> St -> Prop} {kind : Int} {text : bg} {n m at_ : Int} {ks : List AV}
theorem Mk.gm {l : List AV} (M : Mk aE U r k kind text n m at_ ks) (a : eX r l U ae) {l' : List AV} (hr : U.box r = some l') : Mk aE ae r k kind text n m at_ ks := by
 obtain ⟨kv, h1, h2, h3, h4⟩ := M.box
 refine ⟨⟨kv, a.ex.bL M.ne h1, ?_, h3, h4⟩, M.new, M.ne⟩
 rcases h2 with h2 | ⟨τ, e, ht, hl⟩
 · exact .inl h2
 · exact .inr ⟨τ, e, a.ex.tok (fe hr ht).symm ht, hl⟩
theorem Mk.vT (M : Mk aE U r k kind text n m at_ ks) {o w : Nat} {v : AV} {P3 : Int} {QX : bg} {n' m' TZ : Int} {K' : AV -> St -> Prop} {Kp : AV -> St -> Prop} {t : Bool}
 (hs : ∀ kv, v.cS = true /\ (aA v).length = w /\ o + w <= (q9 kind text n m at_ kv).length /\ aH (q9 kind text n m at_ kv) o (aA v) = q9 P3 QX n' m' TZ kv)
 {L : List AV} (A : eX r L aE U)
 (h : ∀ ae, Mk aE ae r k P3 QX n' m' TZ ks -> eX r L aE ae -> K' (.aO []) ae) : (aQ (some (t, w)) (.box k o) v U).wp K U K' Kp := by
 obtain ⟨kv, h1, h2, h3, h4⟩ := M.box
 obtain ⟨s1, s2, s3, s4⟩ := hs kv
 rw [dD h1, s4]
 refine ⟨⟨s1, s2, s3⟩, h _ ⟨⟨kv, bo, ?_, h3, h4⟩, M.new, M.ne⟩ ⟨by rw [aY M.ne.symm]; exact A.box, A.ex.set (.inl M.new)⟩⟩
 rcases h2 with h2 | ⟨τ, e, ht, hl⟩
 · exact .inl h2
 · exact .inr ⟨τ, e, by rw [ib (fe h1 ht).symm]; exact ht, hl⟩
theorem RZ (hr : U.box r = some (rd X i)) (kind : Int) (h : ∀ k ae, Mk U ae r k kind [] 0 0 (eP X.L X.E i) [] -> eX r (rd X i) U ae -> R (.ret (.box k 0)) ae) : af K 99 [.box r 0, .int .u8 kind] U R := by
 refine OQ ?_
 refine DF hr ?_
 refine oZ [.int .u8 kind, .str [], .int .i64 0, .int .i64 0, .int .i64 (eP X.L X.E i), .int .i64 0] rfl ?_
 refine oZ (q9 kind [] 0 0 (eP X.L X.E i) .ax) rfl ?_
 rw [dO rfl]
 intro b hb
 exact aj.mk (h b _ ⟨⟨_, aN, .inl ⟨rfl, rfl, rfl⟩, (fun _ _ _ e => by cases e), fun _ => rfl⟩, hb.1, (hb.cD hr).symm⟩ (.px hr ((cH.refl U).new hb)))
theorem Ge {L : List AV} {mm : Nat} {c : iW} {l2 : List AV} (M : Mk aE U r k kind text n m at_ ks) (A : eX r L aE U) (hm : 0 < mm) (hl : l2.length = mm) (hb : ks.length + mm <= 4294967296)
 (h : ∀ ae, Mk aE ae r k kind text n m at_ (ks ++ l2) -> eX r L aE ae -> aj R (.box k 0) ae) : af K 103 [.box k 0, .vec mm c l2] U R := by
 refine JZ ?_
 obtain ⟨kv, h1, h2, h3, h4⟩ := M.box
 simp only [JY, di, ai, aV, fh h1, q9, List.drop, bB, cq]
 refine HG h2 rfl (by simp [hl]) hm hb (fun e => h4 (rX.1 e)) fun bT v' g1 e1 n1 => ?_
 have k1 : bT.box k = some (q9 kind text n m at_ kv) := by
  cases e : U.live k with
  | none => exact absurd e (dR h1)
  | some x =>
    have := e1 k x (fun n' l' hv => by
     rcases h2 with ⟨_, _, h2⟩ | ⟨τ, h2, ht, _⟩
     · rw [h2] at hv; cases hv
     · rw [h2] at hv; cases hv; exact fe h1 ht rfl) e
    rw [fW (this.trans e.symm)]; exact h1
 have A1 : eX r L aE bT := by
  have key : ∀ b x, aE.live b = some x -> U.live b = some x -> bT.live b = some x := fun b x hx hy => e1 b x (fun n' l' hv => by rw [h3 _ _ _ hv] at hx; cases hx) hy
  refine ⟨?_, fun b x hbr hx => key b x hx (A.ex b x hbr hx)⟩
  cases e : U.live r with
  | none => exact absurd e (dR A.box)
  | some x =>
    have := e1 r x (fun n' l' hv => by
     rcases h2 with ⟨_, _, h2⟩ | ⟨τ, h2, ht, _⟩
     · rw [h2] at hv; cases hv
     · rw [h2] at hv; cases hv; exact fe A.box ht rfl) e
    rw [fW (this.trans e.symm)]; exact A.box
 rw [dD k1]
 have cm : v' ≠ .ax := by
  rcases g1 with ⟨h0, _, _⟩ | ⟨τ, e, _⟩
  · omega
  · rw [e]; simp
 have cS : v'.cS = true /\ aA v' = [v'] := by
  rcases g1 with ⟨h0, _, _⟩ | ⟨τ, e, _⟩
  · omega
  · rw [e]; exact ⟨rfl, rfl⟩
 refine ⟨⟨cS.1, by rw [cS.2]; rfl, by simp [q9]⟩, (h _ ⟨⟨v', ?_, ?_, fun n' tb l' hv => ?_, fun e => ?_⟩, M.new, M.ne⟩ ⟨by rw [aY M.ne.symm]; exact A1.box, A1.ex.set (.inl M.new)⟩)⟩
 · rw [bo, cS.2]; rfl
 · rw [fU, hl]
   rcases g1 with h0 | ⟨τ, e, ht, hl⟩
   · exact .inl h0
   · exact .inr ⟨τ, e, by rw [ib (fe k1 ht).symm]; exact ht, hl⟩
 · rcases n1 n' tb l' hv with hx | ⟨n2, l2', hx⟩
   · cases e : aE.live tb with
     | none => rfl
     | some x =>
       by_cases Zn : tb = r
       · subst Zn; exact absurd hx (dR A.box)
       · have := A.ex tb x Zn e; rw [hx] at this; cases this
   · exact h3 _ _ _ hx
 · have : l2 = [] := (List.append_eq_nil_iff.1 e).2
   subst this; simp at hl; omega
theorem Sx {L : List AV} {mm : Nat} {c : iW} {l2 : List AV} (M : Mk aE U r k kind text n m at_ ks) (A : eX r L aE U) (hm : 0 < mm) (hl : l2.length = mm) (hb : ks.length + mm <= 4294967296)
 (h : ∀ ae, Mk aE ae r k kind text n m at_ (ks ++ l2) -> eX r L aE ae -> R (.ret (.box k 0)) ae) : af K 103 [.box k 0, .vec mm c l2] U R := Ge M A hm hl hb fun ae M A => aj.mk (h ae M A)
theorem Mk.done {l : List AV} {ns : List Nd} (M : Mk aE U r k kind text n m at_ ks) (hk : ek true ks ns) (A : eX r l aE U) (h : ∀ a ae, ek false [a] (node kind text n m at_ ns) -> eX r l aE ae -> R (.ret a) ae) : aj R (.box k 0) U := by
 obtain ⟨kv, h1, h2, h3, h4⟩ := M.box
 refine ⟨_, _, ln.freeze h1, h _ _ (.mk hk ?_) ⟨by rw [hX M.ne.symm]; exact A.box, A.ex.del (.inl M.new)⟩⟩
 rcases h2 with ⟨e1, e2, e3⟩ | ⟨τ, e, _, _⟩
 · exact .inl ⟨e2, e3⟩
 · exact .inr ⟨_, e⟩
end
end
end Go.Rip
namespace Go.Rip
open Go.Proofs Go.RowKit
structure Out (X : Rx) (r : Nat) (aE : St) (R : cB -> St -> Prop) (p : PR (List Nd)) : Prop where
 ok : ∀ ns j, p = .ok ns j -> j <= X.L.length -> ∀ a ae, ek false [a] ns -> eX r (rd X j) aE ae -> R (.ret a) ae
 bad : ∀ j, p = .bad j -> ∀ ae, eX r (rd X j) aE ae -> R (.panic (Fo X j)) ae
def Ct (X : Rx) (f : FuncId) (i : Nat) (p : PR (List Nd)) : Prop := ∀ (r : Nat) (U : St) (R : cB -> St -> Prop), U.box r = some (rd X i) -> Out X r U R p -> af K f [.box r 0] U R
structure Sk (X : Rx) (aE : St) (r k i : Nat) (kind : Int) (text : bg) (n m at_ : Int) (l : List Nd) (U : St) : Prop where
 A : eX r (rd X i) aE U
 hi : i <= X.L.length
 M : ∃ ks, Mk aE U r k kind text n m at_ ks /\ ek true ks l /\ ks.length <= i
section
variable {X : Rx} {aE U : St} {r k i : Nat} {kind : Int} {text : bg} {n m at_ : Int} {l : List Nd} {R : cB -> St -> Prop} {K' : AV -> St -> Prop} {Kp : AV -> St -> Prop} {w : bg} {f : FuncId}
theorem Sk.gm (S : Sk X aE r k i kind text n m at_ l U) {ae : St} {j : Nat} (A : eX r (rd X j) U ae) (hj : j <= X.L.length) (fE : i <= j) : Sk X aE r k j kind text n m at_ l ae := by
 obtain ⟨ks, h1, h2, h3⟩ := S.M
 exact ⟨S.A.trans A, hj, ks, h1.gm A S.A.box, h2, by omega⟩
theorem Out.gm {ae : St} {p : PR (List Nd)} {L : List AV} (O : Out X r U R p) (A : eX r L U ae) : Out X r ae R p :=
 ⟨fun ns j h hj a bR k A2 => O.ok ns j h hj a bR k (A.trans A2), fun j h bR A2 => O.bad j h bR (A.trans A2)⟩
theorem gk (hr : U.box r = some (rd X i)) (hi : i <= X.L.length) {kind : Int} (h : ∀ k ae, Sk X U r k i kind [] 0 0 (eP X.L X.E i) [] ae -> K' (.box k 0) ae) : af K 99 [.box r 0, .int .u8 kind] U (ar K' Kp) :=
 RZ hr kind fun k ae M A => h k ae ⟨A, hi, [], M, .nil, by simp⟩
theorem eE {q : Unit -> Nat -> PR (List Nd)} (S : Sk X aE r k i kind text n m at_ l U) (O : Out X r aE R ((cE X.L w i).bind q)) (h : ∀ ae, Sk X aE r k (i + 1) kind text n m at_ l ae -> Out X r aE R (q () (i + 1)) -> K' (.aO []) ae) : af K 102 [.box r 0, .str w] U (ar K' (aa R)) :=
 Aj S.A.box S.hi w (fun e hl ae A => h ae (S.gm A hl (by omega)) (by rw [e] at O; exact O)) fun e ae A => O.bad _ (by rw [e]; rfl) _ (S.A.trans A)
theorem nJ {q : bg -> Nat -> PR (List Nd)} (S : Sk X aE r k i kind text n m at_ l U) (O : Out X r aE R ((iV X.L i).bind q)) (h : ∀ x ae, Sk X aE r k (i + 1) kind text n m at_ l ae -> Out X r aE R (q x (i + 1)) -> K' (.str x) ae) : af K 101 [.box r 0] U (ar K' (aa R)) :=
 RJ S.A.box S.hi (fun x e hl ae A => h x ae (S.gm A hl (by omega)) (by rw [e] at O; exact O)) fun e ae A => O.bad _ (by rw [e]; rfl) _ (S.A.trans A)
theorem o7 {q : Int -> Nat -> PR (List Nd)} (S : Sk X aE r k i kind text n m at_ l U) (O : Out X r aE R ((ki X.L i).bind q)) (h : ∀ x ae, Sk X aE r k (i + 1) kind text n m at_ l ae -> Out X r aE R (q x (i + 1)) -> K' (.int .i64 x) ae) : af K 168 [.box r 0] U (ar K' (aa R)) :=
 Jw S.A.box S.hi (fun x e hl ae A => h x ae (S.gm A hl (by omega)) (by rw [e] at O; exact O)) fun e ae A => O.bad _ (by rw [e]; rfl) _ (S.A.trans A)
theorem zt (S : Sk X aE r k i kind text n m at_ l U) (h1 : cC X.L i w = true -> ∀ ae, Sk X aE r k (i + 1) kind text n m at_ l ae -> K' (.bool true) ae) (h2 : cC X.L i w = false -> ∀ ae, Sk X aE r k i kind text n m at_ l ae -> K' (.bool false) ae) : af K 100 [.box r 0, .str w] U (ar K' Kp) :=
 Dt S.A.box S.hi w (fun e ae A => h1 e ae (S.gm A (df e) (by omega))) fun e ae A => h2 e ae (S.gm (.px S.A.box A) S.hi (by omega))
theorem Wf (S : Sk X aE r k i kind text n m at_ l U) (h : ∀ b ae, cC X.L i w = b -> Sk X aE r k i kind text n m at_ l ae -> K' (.bool b) ae) :
 (aM (some (9, 1)) (some [AV.str []]) 1 false [(0, .str w)]).wp K U (fun v U => af K 105 [.box r 0, v] U (ar K' Kp)) Kp := by
 rw [fI]
 refine ⟨by omega, ?_⟩
 rw [eR (o := 0) (s := 1) rfl]
 refine ⟨⟨rfl, rfl, by simp [bN]⟩, ?_⟩
 rw [gQ]
 refine ⟨rfl, ?_⟩
 refine GZ (l := [w]) S.A.box S.hi (by simp) fun bT e1 => ?_
 exact h _ _ (by rw [wA]) (S.gm (.px S.A.box e1) S.hi (by omega))
theorem nK {x : bg} (S : Sk X aE r k i kind text n m at_ l U) (h : ∀ ae, Sk X aE r k i kind x n m at_ l ae -> K' (.aO []) ae) : (aQ (some (false, 1)) (.box k 1) (.str x) U).wp K U K' Kp := by
 obtain ⟨ks, h1, h2, h3⟩ := S.M
 exact h1.vT (fun kv => ⟨rfl, rfl, by simp [q9], rfl⟩) S.A fun ae M A => h ae ⟨A, S.hi, ks, M, h2, h3⟩
theorem Sc {x : Int} (S : Sk X aE r k i kind text n m at_ l U) (h : ∀ ae, Sk X aE r k i x text n m at_ l ae -> K' (.aO []) ae) : (aQ (some (false, 1)) (.box k 0) (.int .u8 x) U).wp K U K' Kp := by
 obtain ⟨ks, h1, h2, h3⟩ := S.M
 exact h1.vT (fun kv => ⟨rfl, rfl, by simp [q9], rfl⟩) S.A fun ae M A => h ae ⟨A, S.hi, ks, M, h2, h3⟩
theorem Hz {x : Int} (S : Sk X aE r k i kind text n m at_ l U) (h : ∀ ae, Sk X aE r k i kind text x m at_ l ae -> K' (.aO []) ae) : (aQ (some (false, 1)) (.box k 2) (.int .i64 x) U).wp K U K' Kp := by
 obtain ⟨ks, h1, h2, h3⟩ := S.M
 exact h1.vT (fun kv => ⟨rfl, rfl, by simp [q9], rfl⟩) S.A fun ae M A => h ae ⟨A, S.hi, ks, M, h2, h3⟩
theorem aaY {x : Int} (S : Sk X aE r k i kind text n m at_ l U) (h : ∀ ae, Sk X aE r k i kind text n x at_ l ae -> K' (.aO []) ae) : (aQ (some (false, 1)) (.box k 3) (.int .i64 x) U).wp K U K' Kp := by
 obtain ⟨ks, h1, h2, h3⟩ := S.M
 exact h1.vT (fun kv => ⟨rfl, rfl, by simp [q9], rfl⟩) S.A fun ae M A => h ae ⟨A, S.hi, ks, M, h2, h3⟩
theorem DV {a : AV} {ns : List Nd} {j : Nat} (S : Sk X aE r k j kind text n m at_ l U) (hj : ∀ ks, Mk aE U r k kind text n m at_ ks -> ek true ks l -> ks.length <= j -> ∃ ks', Mk aE U r k kind text n m at_ ks' /\ ek true ks' l /\ ks'.length + 1 <= j) (hk : ek false [a] ns) (h : ∀ ae, Sk X aE r k j kind text n m at_ (l ++ ns) ae -> K' (.box k 0) ae) :
 (aM (some (87, 1)) (some [AV.a7]) 1 false [(0, a)]).wp K U (fun v U => af K 103 [.box k 0, v] U (ar K' (aa R))) (aa R) := by
 have ha : a.cS = true /\ aA a = [a] := by
  generalize hb : false = b at hk
  generalize hl : [a] = la at hk
  cases hk with
  | mk _ _ => cases hl; exact ⟨rfl, rfl⟩
  | nil => cases hl
  | cons _ _ => cases hb
 rw [fI]
 refine ⟨by omega, ?_⟩
 rw [eR (o := 0) (s := 1) rfl]
 refine ⟨⟨ha.1, by rw [ha.2]; rfl, by simp [bN]⟩, ?_⟩
 rw [gQ]
 rw [ha.2]
 refine ⟨rfl, ?_⟩
 obtain ⟨ZC, g1, g2, g3⟩ := S.M
 obtain ⟨ks, h1, h2, h3⟩ := hj ZC g1 g2 g3
 have := X.small
 have hi := S.hi
 refine Sx (l2 := [a]) h1 S.A (by omega) rfl (by omega) fun ae M A => ?_
 exact h ae ⟨A, S.hi, _, M, h2.snoc hk, by simp; omega⟩
theorem ku {p : PR (List Nd)} {q : List Nd -> Nat -> PR (List Nd)} (S : Sk X aE r k i kind text n m at_ l U) (C : Ct X f i p) (hp : Gd X.L.length (i + 1) i p) (O : Out X r aE R (p.bind q))
 (h : ∀ ns j ae, j <= X.L.length -> i < j -> Sk X aE r k j kind text n m at_ (l ++ ns) ae -> Out X r aE R (q ns j) -> K' (.box k 0) ae) :
 af K f [.box r 0] U (ar (fun v U => (aM (some (87, 1)) (some [AV.a7]) 1 false [(0, v)]).wp K U (fun v U => af K 103 [.box k 0, v] U (ar K' (aa R))) (aa R)) (aa R)) := by
 refine C r U _ S.A.box ⟨fun ns j e hj a ae hk A => ?_, fun j e ae A => O.bad j (by rw [e]; rfl) ae (S.A.trans A)⟩
 rw [e] at hp O
 have fE : i < j := hp.1
 have S1 := S.gm A hj (by omega)
 refine DV S1 (fun ks _ _ _ => ?_) hk fun bR S2 => h ns j bR hj fE S2 O
 obtain ⟨ks, h1, h2, h3⟩ := S.M
 exact ⟨ks, h1.gm A S.A.box, h2, by omega⟩
theorem eU (S : Sk X aE r k i kind text n m at_ l U) (O : Out X r aE R (.ok (node kind text n m at_ l) i)) : aj R (.box k 0) U := by
 obtain ⟨ks, h1, h2, h3⟩ := S.M
 exact h1.done h2 S.A fun a ae hk A => O.ok _ _ rfl S.hi a ae hk A
theorem zj : aa (ar K' Kp) = Kp := rfl
theorem B9 {gV : FuncId} (he : dz K.P gV = true) {c : List AV} : (fM K.P (.func (.func gV) [.box r 0] []) []).wp K U K' Kp = af K gV [.box r 0] U (ar K' Kp) := by
 simp [fM, he]
theorem RH {one : Nat -> PR (List Nd)} {gV : FuncId} (he : dz K.P gV = true) (C : ∀ i, i <= X.L.length -> Ct X gV i (one i)) (hg : ∀ i, i <= X.L.length -> Gd X.L.length (i + 1) i (one i))
 {fu : Nat} (hf : X.L.length - i <= fu) (h0 : 0 < fu) {q : List Nd -> Nat -> PR (List Nd)} (S : Sk X aE r k i kind text n m at_ l U) (O : Out X r aE R ((wu X.L one fu i).bind q))
 (h : ∀ ns j ae, j <= X.L.length -> i < j -> Sk X aE r k j kind text n m at_ (l ++ ns) ae -> Out X r aE R (q ns j) -> K' (.aO []) ae) : af K 106 [.box r 0, .box k 0, .func (.func gV) [.box r 0] []] U (ar K' (aa R)) := by
 refine BA ?_
 unfold DR
 rw [B9 he (c := [])]
 have e : (wu X.L one fu i).bind q = (one i).bind fun a j => (pH X.L one fu a j).bind q := by
  unfold wu; cases one i <;> rfl
 rw [e] at O
 simp only [zj]
 refine ku S (C i S.hi) (hg i S.hi) O fun ns j bT hj fE S1 O1 => ?_
 refine ⟨fun mm v0 v1 v2 ae => ∃ acc j f', mm = X.L.length - j /\ v0 = .box r 0 /\ v1 = .box k 0 /\ v2 = .func (.func gV) [.box r 0] [] /\ j <= X.L.length /\ i < j /\ X.L.length - j < f' /\ Sk X aE r k j kind text n m at_ (l ++ acc) ae /\ Out X r aE R ((pH X.L one f' acc j).bind q),
  ⟨_, ns, j, fu, rfl, rfl, rfl, rfl, hj, fE, by omega, S1, O1⟩, ?_⟩
 rintro mm v0 v1 v2 bR ⟨acc, j2, f', rfl, rfl, rfl, rfl, oh, Ad, UG, S2, O2⟩
 cases f' with
 | zero => omega
 | succ f' =>
   unfold pH at O2
   refine zt S2 (fun hw c8 S3 => ?_) (fun hw c8 S3 => ?_)
   · simp only [bf]
     rw [if_pos hw] at O2
     have aJ := df hw
     rw [B9 he (c := [])]
     have e2 : ((one (j2 + 1)).bind fun b j => pH X.L one f' (acc ++ b) j).bind q = (one (j2 + 1)).bind fun b j => (pH X.L one f' (acc ++ b) j).bind q := by
      cases one (j2 + 1) <;> rfl
     rw [e2] at O2
     refine ku S3 (C _ aJ) (hg _ aJ) O2 fun VC j3 dq Fu aai S4 O4 => ?_
     refine ⟨_, ?_, acc ++ VC, j3, f', rfl, rfl, rfl, rfl, Fu, by omega, by omega, by rw [<- qD]; exact S4, O4⟩
     omega
   · simp only [aU]
     rw [if_neg (by rw [hw]; simp)] at O2
     exact aj.mk (h acc j2 c8 oh Ad S3 O2)
end
end Go.Rip
