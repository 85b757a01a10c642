/- Lemmas for the proof: no conditions. -/
import Derived.Test.YtnfpmiiopiinbaaGreatDoorRipZz
import Derived.Test.YtnfpmiiopiinbaaGreatDoorRipM
import Derived.Test.YtnfpmiiopiinbaaGreatDoorRipF
import Derived.Test.YtnfpmiiopiinbaaGreatDoorRipG
import Derived.Test.YtnfpmiiopiinbaaGreatDoorRipH
import Derived.Test.YtnfpmiiopiinbaaGreatDoorRipE
set_option linter.unusedVariables false
set_option linter.unusedSimpArgs false
set_option linter.loopingSimpArgs false
namespace Go.Rip
open Go.RowKit
structure Rx where
 L : List Tk
 E : Nat
 tv : AV
 tr : eN tv L.length (fU L)
 ok : ∀ t ∈ L, pb t
 small : L.length <= 900
def rd (X : Rx) (i : Nat) : List AV := [X.tv, .int .i64 i, .int .i64 X.E, CR, ru]
def Ej (X : Rx) (i : Nat) : AV := .iface 136 (.agg [.int .i64 (ef X.L X.E i)])
theorem eN.len {v : AV} {n : Nat} {cs : List AV} (h : eN v n cs) : bU (some false) v = .val (.int .i64 n) := by
 rcases h with ⟨rfl, rfl, rfl⟩ | ⟨c, rfl⟩ <;> rfl
theorem eN.at {v : AV} {n : Nat} {cs : List AV} (h : eN v n cs) {sz e j : Nat} (hj : j < n) : ∃ c, v = .vec n c cs /\ aP (some (e, sz)) none v (.int .i64 (j : Int)) = .cond (0 <= (j : Int) /\ (j : Int) < n) (.val (.bY (cs.drop (j * sz)))) := by
 rcases h with ⟨rfl, rfl, rfl⟩ | ⟨c, rfl⟩
 · omega
 · exact ⟨c, rfl, by simp⟩
theorem qK : ∀ i, closed (K.ui i) = true := fun i => by
 show closed (if i = 0 then .bY rk else if i = 7 then .bY rR else .any) = true
 split
 · kernel_rfl
 · split
   · kernel_rfl
   · rfl
theorem Pure.of {f : Nat} {args : List AV} {x : AV} (hargs : bS args = true) (hx : closed x = true) (hr : ∀ U, resolve 5 U x = x)
 (h : ∀ R : cu -> St -> Prop, (∀ ad, R (.ret x) ad) -> ae K f args (br ⟨.e, 0⟩) R) : Pure K f args x :=
 Pure.vE qK hargs hx 5 (h _ fun ad => ⟨x, rfl, hr ad⟩)
def idx (l : List aZ) (s : aZ) : Int := match l.findIdx? (· = s) with | some i => i | none => -1
theorem F4 (c : hX) (l : List aZ) (s : aZ) (hn : l.length <= 100000) : Pure K 230 [.vec l.length c (l.map .str), .str s] (.int .i64 (idx l s)) := by
 intro U R hR
 refine Ky ?_
 simp only [Kx, rL, ah]
 refine ⟨fun m v0 v1 v7 v8 ad => ∃ i : Nat, m = l.length - i /\ i <= l.length /\ v0 = .vec l.length c (l.map .str) /\ v1 = .str s /\ v7 = .int .i64 l.length /\ v8 = .int .i64 i /\ ad = U /\ ∀ j, j < i -> l[j]? ≠ some s, ⟨l.length, 0, by simp [Fn.app]⟩, ?_⟩
 intro m v0 v1 v7 v8 ad hI
 obtain ⟨i, rfl, hi, rfl, rfl, rfl, rfl, rfl, gd⟩ := hI
 simp only [bP, ah, bE]
 refine ⟨fun aK => ?_, fun hY => ?_⟩
 · have aK : i < l.length := by omega
   have hd : (l.map AV.str).drop (i * 1) = .str l[i] :: (l.map AV.str).drop (i + 1) := by
    rw [Nat.mul_one, gp (by simpa using aK)]; simp
   simp only [tI, wp_cond, ah, eG, hd, ql, cY, nQ, bE]
   refine ⟨by omega, fun he => ?_, fun bW => ?_⟩
   · refine al.eq hR ?_
     have : l.findIdx? (· = s) = some i := by
      rw [CV]
      refine ⟨aK, by simp [he], fun j hj => ?_⟩
      have := gd j hj
      rw [kL (by omega)] at this
      simpa using this
     simp [idx, this]
   · simp only [iC, db, wp_cond, ah]
     refine ⟨aX (by omega) (by omega), ?_⟩
     refine ⟨l.length - (i + 1), by omega, i + 1, rfl, by omega, rfl, rfl, rfl, by simp, rfl, fun j hj => ?_⟩
     · rcases fT j i with h | h
       · exact gd j h
       · have : j = i := by omega
         subst this
         rw [kL aK]; simpa using fun h => bW h.symm
 · refine al.eq hR ?_
   have : l.findIdx? (· = s) = none := by
    rw [List.findIdx?_eq_none_iff]
    intro x hx
    obtain ⟨j, hj, rfl⟩ := List.getElem_of_mem hx
    have := gd j (by omega)
    rw [kL hj] at this
    simpa using this
   simp [idx, this]
section
variable {X : Rx} {r i : Nat} {U : St} {R : cu -> St -> Prop}
theorem CS (hr : U.box r = some (rd X i)) (h : R (.ret (.int .i64 (ef X.L X.E i))) U) : ae K 164 [.box r 0] U R := by
 refine J1 ?_
 simp only [J0, cW, aC, aU, ld hr, rd, List.drop, cY, X.tr.len, bP, bE, ah, cD]
 refine ⟨fun aK => ?_, fun hY => ?_⟩
 · have aK : i < X.L.length := by omega
   obtain ⟨c, hv, qd⟩ := X.tr.at (sz := 3) (e := 51) aK
   obtain ⟨t, ht⟩ : ∃ t, X.L[i]? = some t := ⟨X.L[i], by simp [aK]⟩
   obtain ⟨rest, hd⟩ := zB ht
   simp only [qd, fq, aC, hd, cQ, ql, lP, jh, gH, List.drop, cY]
   refine ⟨by omega, al.mk ?_⟩
   have : ef X.L X.E i = t.at_ := by simp [ef, ht]
   rw [<- this]; exact h
 · refine al.mk ?_
   have : ef X.L X.E i = X.E := by simp [ef, mb (show X.L.length <= i by omega)]
   rw [<- this]; exact h
def nw : Option Tk -> List AV
 | some t => lP t
 | none => [.int .u8 0, .str [], .int .i64 0]
theorem mc (hr : U.box r = some (rd X i)) (hi : i <= X.L.length) (k : Nat) (hk : k <= 10) (h : ∀ ad, cm U ad -> R (.ret (.agg (nw X.L[i + k]?))) ad) : ae K 167 [.box r 0, .int .i64 k] U R := by
 refine J5 ?_
 have hs := X.small
 simp only [J4, lR]
 intro b hb
 have Ez := hb.cn hr
 have Cc : (U.new b (.box [AV.int .u8 0, AV.str [], AV.int .i64 0])).box r = some (rd X i) := by rw [jt Ez]; exact hr
 have fC : (U.new b (.box [AV.int .u8 0, AV.str [], AV.int .i64 0])).box b = some [AV.int .u8 0, AV.str [], AV.int .i64 0] := aD
 simp only [NV.at, cW, aC, aU, ld Cc, rd, List.drop, cY, X.tr.len, iC, db, fq, bP, bE, ah, cD]
 refine ⟨aX (by omega) (by omega), fun aK => ?_, fun hY => ?_⟩
 · have aK : i + k < X.L.length := by omega
   obtain ⟨c, hv, qd⟩ := X.tr.at (sz := 3) (e := 51) aK
   obtain ⟨t, ht⟩ : ∃ t, X.L[i + k]? = some t := ⟨X.L[i + k], by simp [aK]⟩
   obtain ⟨rest, hd⟩ := zB ht
   rw [<- Int.natCast_add]
   simp only [qd, fq, aC, hd, Gq, uZ fC, wp_cond, iB]
   refine ⟨aX (by omega) (by omega), by omega, by simp [lP], by simp [lP], ?_⟩
   rw [qO (Iu (aR) 3 0)]
   refine ⟨by simp [aw, lP], ?_⟩
   refine al.eq (h _ (((cm.refl U).new hb).set hb.1)) ?_
   simp [aw, lP, ht, nw]
 · simp only [dV, ek, ah, uZ fC, wp_cond, iB]
   refine ⟨by simp, ?_⟩
   rw [qO (Iu (aR) 3 0)]
   refine ⟨by simp [aw], ?_⟩
   refine al.eq (h _ (((cm.refl U).new hb).set hb.1)) ?_
   simp [aw, mb (show X.L.length <= i + k by omega), nw]
def qP (o : Option Tk) (l : List aZ) : Bool := match o with
 | some t => (t.k == 3 || t.k == 4) && decide (t.s ∈ l)
 | none => false
theorem F3 (l : List aZ) (s : aZ) : decide (0 <= idx l s) = decide (s ∈ l) := by
 unfold idx
 split
 · rename_i j hj
   obtain ⟨h1, h2, _⟩ := CV.1 hj
   have : s ∈ l := by have := of_decide_eq_true h2; exact this ▸ zq h1
   simp [this]
 · rename_i hj
   rw [List.findIdx?_eq_none_iff] at hj
   have : s ∉ l := fun hm => by simpa using hj s hm
   simp [this]
theorem AN (c : hX) (l : List aZ) (s : aZ) (hn : l.length <= 100000) : Pure K 178 [.vec l.length c (l.map .str), .str s] (.bool (decide (s ∈ l))) := by
 intro U R hR
 refine J9 ?_
 refine (F4 c l s hn).go ?_
 simp only [gI, ah]
 refine al.eq hR ?_
 rw [F3]
theorem wW {c : hX} (o : Option Tk) (l : List aZ) (hn : l.length <= 100000) (h : ∀ ad, cm U ad -> R (.ret (.bool (qP o l))) ad) : ae K 121 [.agg (nw o), .vec l.length c (l.map .str)] U R := by
 refine Jp ?_
 have hl : ∃ k s a, nw o = [.int .u8 k, .str s, .int .i64 a] /\ qP o l = ((decide (k = 3) || decide (k = 4)) && decide (s ∈ l)) := by
  cases o with
  | none => exact ⟨0, [], 0, rfl, rfl⟩
  | some t => exact ⟨t.k, t.s, t.at_, rfl, by
     have e : ∀ m : Nat, (t.k == m) = decide ((t.k : Int) = (m : Int)) := fun m => by
      rw [nf]; simp; omega
     simp only [qP, e 3, e 4]; rfl⟩
 obtain ⟨k, s, a, e1, e2⟩ := hl
 rw [e1]
 simp only [Jo, zM _ (Me _), wp_cond, true_and, Ht, lR]
 intro b_ hb
 have fC : (U.new b_ (.box [.int .u8 k, .str s, .int .i64 a])).box b_ = some [.int .u8 k, .str s, .int .i64 a] := aD
 have hx := h _ ((cm.refl U).new (x := .box [.int .u8 k, .str s, .int .i64 a]) hb)
 rw [e2] at hx
 simp only [NV.at, aU, ah, ld fC, List.drop, cY, bl, aW, aM, mZ, cD]
 have xR := AN c l s hn
 have step : ∀ b : Bool, ((decide (k = 3) || decide (k = 4)) && decide (s ∈ l)) = b -> al R (.bool b) (U.new b_ (.box [.int .u8 k, .str s, .int .i64 a])) := fun b e => by subst e; exact al.mk hx
 by_cases h3 : k = 3
 · subst h3
   simp [ld fC]
   exact ⟨_, xR, step _ (by simp)⟩
 · by_cases h4 : k = 4
   · subst h4
     simp [ld fC]
     exact ⟨_, xR, step _ (by simp)⟩
   · simp [ld fC, h3, h4]
     exact step _ (by simp [h3, h4])
theorem DC (s w : aZ) : decide (s ∈ [w]) = (s == w) := by
 by_cases h : s = w
 · simp [h]
 · simp [h]
theorem vF (L : List Tk) (i : Nat) (w : aZ) : qP L[i]? [w] = cr L i w := by
 unfold qP cr
 split
 · rename_i t ht; rw [ht, DC]
 · rename_i ht; rw [ht]
theorem Gb {c : hX} (hr : U.box r = some (rd X i)) (hi : i <= X.L.length) (l : List aZ) (hn : l.length <= 100000) (h : ∀ ad, cm U ad -> R (.ret (.bool (qP X.L[i]? l))) ad) : ae K 105 [.box r 0, .vec l.length c (l.map .str)] U R := by
 refine Jl ?_
 refine mc hr hi 0 (by omega) fun bH e1 => ?_
 refine wW (X.L[i]?) l hn fun bJ e2 => ?_
 exact al.mk (h _ (e1.trans e2))
theorem CF (hr : U.box r = some (rd X i)) (hi : i <= X.L.length) (w : aZ)
 (h1 : cr X.L i w = true -> ∀ ad, eo r (rd X (i + 1)) U ad -> R (.ret (.bool true)) ad) (h2 : cr X.L i w = false -> ∀ ad, cm U ad -> R (.ret (.bool false)) ad) : ae K 100 [.box r 0, .str w] U R := by
 refine Jg ?_
 have hs := X.small
 simp only [Jf, aH, ek, zN, Mg, bw, wp_cond, ah, aw, List.take, List.drop, gH, jh, iI]
 refine ⟨by omega, by simp, by simp, ?_⟩
 refine Gb (l := [w]) hr hi (by simp) fun bH e1 => ?_
 have Cc := e1.bf hr
 simp only [bz, dt, ah, vF]
 cases hw : cr X.L i w with
 | false => simp only [dR, bq]; exact al.mk (h2 hw _ e1)
 | true =>
   simp only [cq, a7, cW, ah, aU, ld Cc, rd, List.drop, cY, cD, iC, db, wp_cond, uZ Cc, iB]
   refine ⟨aX (by omega) (by omega), by simp, al.mk (h1 hw _ ⟨?_, (e1.HF (r := r)).set (.inr rfl)⟩)⟩
   rw [aR]; simp [aw, rd]
theorem Ei (hr : U.box r = some (rd X i)) (h : R (.panic (Ej X i)) U) : ae K 166 [.box r 0] U R := by
 refine J3 ?_
 refine CS hr ?_
 simp only [bz, dV, ek, Hu, Mf, wp_cond, ah, aw, mT, if_true, mW, NB]
 refine ⟨by simp, ?_⟩
 exact h
theorem zl (hr : U.box r = some (rd X i)) (hi : i <= X.L.length) (w : aZ)
 (h1 : cx X.L w i = .ok () (i + 1) -> i + 1 <= X.L.length -> ∀ ad, eo r (rd X (i + 1)) U ad -> R (.ret (.aN [])) ad) (h2 : cx X.L w i = .bad i -> ∀ ad, eo r (rd X i) U ad -> R (.panic (Ej X i)) ad) : ae K 102 [.box r 0, .str w] U R := by
 refine Ji ?_
 refine CF hr hi w (fun hw bH a1 => ?_) (fun hw bH e1 => ?_)
 · simp only [bz, dt, ah, cq, a7]
   exact al.mk (h1 (by simp [cx, hw]) (cU hw) _ a1)
 · simp only [bz, dt, ah, dR, bq]
   exact Ei (e1.bf hr) (h2 (by simp [cx, hw]) _ (.oK hr e1))
theorem qx (o : Option Tk) : ∃ k : Int, ∃ s a, nw o = [.int .u8 k, .str s, .int .i64 a] /\ (∀ m : Nat, 0 < m -> (k = (m : Int) ↔ ∃ t, o = some t /\ t.k = m /\ t.s = s)) := by
 cases o with
 | none => exact ⟨0, [], 0, rfl, fun m hm => ⟨fun h => by omega, fun ⟨t, h, _⟩ => by cases h⟩⟩
 | some t => exact ⟨t.k, t.s, t.at_, rfl, fun m hm => ⟨fun h => ⟨t, rfl, by omega, rfl⟩, fun ⟨u, h, h2, h3⟩ => by cases h; omega⟩⟩
theorem IU (hr : U.box r = some (rd X i)) (hi : i <= X.L.length) (k : Nat) (hk : 0 < k)
 (h1 : ∀ t, X.L[i]? = some t -> t.k = k -> i + 1 <= X.L.length -> ∀ ad, eo r (rd X (i + 1)) U ad -> R (.ret (.str t.s)) ad) (h2 : (∀ t, X.L[i]? = some t -> t.k ≠ k) -> ∀ ad, eo r (rd X i) U ad -> R (.panic (Ej X i)) ad) : ae K 165 [.box r 0, .int .u8 k] U R := by
 refine J2 ?_
 have hs := X.small
 refine mc hr hi 0 (by omega) fun bH e1 => ?_
 have Cc := e1.bf hr
 obtain ⟨m, s, a, e, hm⟩ := qx X.L[i + 0]?
 rw [e]
 simp only [bz, lR]
 intro b hb
 have Ez := hb.cn Cc
 have e2 := e1.new (x := .box [AV.int .u8 0, AV.str [], AV.int .i64 0]) hb
 have fC : (bH.new b (.box [AV.int .u8 0, AV.str [], AV.int .i64 0])).box b = some [AV.int .u8 0, AV.str [], AV.int .i64 0] := aD
 simp only [NV.at, uZ fC, wp_cond, iB]
 refine ⟨by simp, ?_⟩
 have e3 := e2.set (x := .box (aw [AV.int .u8 0, AV.str [], AV.int .i64 0] 0 (au (.agg [.int .u8 m, .str s, .int .i64 a])))) (e1.fresh hb.1)
 generalize lL : (bH.new b (.box [AV.int .u8 0, AV.str [], AV.int .i64 0])).set b (.box (aw [AV.int .u8 0, AV.str [], AV.int .i64 0] 0 (au (.agg [.int .u8 m, .str s, .int .i64 a])))) = c7 at e3 ⊢
 have gS : c7.box b = some [.int .u8 m, .str s, .int .i64 a] := by rw [<- lL, aR]; rfl
 have wb := e3.bf hr
 intro j hj
 simp only [aU, ah, ld gS, List.drop, cY, cD, cO, az, Bool.not_eq_true', decide_eq_false_iff_not, Bool.not_eq_false', dD]
 refine ⟨fun bW => ?_, fun heq => ?_⟩
 · refine Ei wb ?_
   exact h2 (fun t ht he => bW ((hm k hk).2 ⟨t, ht, he, by rw [Nat.add_zero, ht] at e; cases e; rfl⟩)) _ (.oK hr e3)
 · obtain ⟨t, ht, pq, tF⟩ := (hm k hk).1 heq
   have aK := (dx.1 ht).1
   refine hj _ _ _ ?_
   simp only [cW, ah, aU, ld wb, rd, List.drop, cY, cD, iC, db, wp_cond, uZ wb, iB]
   refine ⟨aX (by omega) (by omega), by simp, ?_⟩
   rw [iB]
   generalize Cn : c7.set r _ = cH
   have kB : cH.box b = some [.int .u8 m, .str s, .int .i64 a] := by rw [<- Cn, aE (Ne.symm Ez)]; exact gS
   have hr4 : cH.box r = some (rd X (i + 1)) := by rw [<- Cn, aR]; simp [aw, rd]
   have e4 : gr r U cH := by rw [<- Cn]; exact (e3.HF (r := r)).set (.inr rfl)
   simp only [ld kB, List.drop, cY, ah]
   refine al.mk ?_
   rw [<- tF]
   exact h1 t ht pq aK _ ⟨hr4, e4⟩
theorem PM (hr : U.box r = some (rd X i)) (hi : i <= X.L.length)
 (h1 : ∀ x, hU X.L i = .ok x (i + 1) -> i + 1 <= X.L.length -> ∀ ad, eo r (rd X (i + 1)) U ad -> R (.ret (.str x)) ad) (h2 : hU X.L i = .bad i -> ∀ ad, eo r (rd X i) U ad -> R (.panic (Ej X i)) ad) : ae K 101 [.box r 0] U R := by
 refine Jh ?_
 refine IU hr hi 1 (by omega) (fun t ht hk hl bH a1 => ?_) (fun hn bH a1 => ?_)
 · exact al.mk (h1 t.s (by simp [hU, ht, hk]) hl _ a1)
 · refine h2 ?_ _ a1
   unfold hU
   split
   · rename_i t ht; rw [if_neg (hn t ht)]
   · rfl
end
end Go.Rip
namespace Go.Rip
open Go.Proofs Go.RowKit
theorem Pure.IS {f : FuncId} {args : List AV} {vs : List Value} {x : AV} {v : Value} (hargs : ∀ g us, ax g args us -> us = vs) (hx : ∀ g, ao g x v)
 (h : ∀ w, Calls K.P f vs.toArray w fun e w' => e = .returned v /\ w.grownBy w' none) : Pure K f args x := by
 intro U R hR g w us hs hG ha
 have := hargs g us ha
 subst this
 refine callsIn_wide.2 ((h w).mono fun e w' ⟨h1, h2⟩ => ?_)
 subst h1
 exact ⟨g, U, x, Gh.Le.refl g, hs.grow h2, hx g, hR⟩
theorem Dy (w : World) (e : TypeId) (s : ByteArray) : w.grownBy (Lib.bytesWorld w e s) none := by
 have bW : ∀ q, q < w.heap.size -> w.heap.size ≠ q := fun q h => by omega
 unfold Lib.bytesWorld World.freeze
 split
 · exact ⟨rfl, rfl, rfl, by simp [World.alloc, World.drew, -World.alloc_eq, -World.drew_eq], fun q hq _ => by simp [World.alloc, World.drew, -World.alloc_eq, -World.drew_eq, Array.getElem?_push, Nat.ne_of_lt hq]⟩
 · refine ⟨rfl, rfl, rfl, by simp [World.alloc, World.drew, -World.alloc_eq, -World.drew_eq], fun q hq _ => ?_⟩
   simp [World.alloc, World.drew, -World.alloc_eq, -World.drew_eq, Array.getElem?_modify, Array.getElem?_push, bW q hq, Nat.ne_of_lt hq]
theorem Hn (s : aZ) (h0 : s ≠ []) (h : l8 s = 0) : Pure K 218 [.str s] (.aN [.int .i64 (sj s), .cA]) := by
 obtain ⟨h1, h2, _⟩ := IN h0 h
 refine Pure.IS (vs := [.string ⟨s.toArray⟩]) (v := .tuple #[.int .i64 (sj s), .nilIface]) (fun g us hr => Mv hr) (fun g => by simp [ao, ax]) fun w => ?_
 refine (Tryz.strconv_Atoi ⟨s.toArray⟩ (sj s) (by show s.toArray.size <= 18; simp; omega) (Lp h0 (EP h).1) w).mono fun e w' ⟨he, t, hw⟩ => ⟨he, ?_⟩
 subst hw
 exact Dy _ _ _
section
variable {X : Rx} {r i : Nat} {U : St} {R : cu -> St -> Prop}
theorem IP (hr : U.box r = some (rd X i)) (hi : i <= X.L.length)
 (h1 : ∀ x, jB X.L i = .ok x (i + 1) -> i + 1 <= X.L.length -> ∀ ad, eo r (rd X (i + 1)) U ad -> R (.ret (.int .i64 x)) ad) (h2 : jB X.L i = .bad i -> ∀ ad, eo r (rd X i) U ad -> R (.panic (Ej X i)) ad) : ae K 168 [.box r 0] U R := by
 refine J6 ?_
 refine IU hr hi 2 (by omega) (fun t ht hk hl bH a1 => ?_) (fun hn bH a1 => ?_)
 · have ca := X.ok t (fS ht)
   refine (Hn t.s ca.1 (PS ca hk)).go ?_
   simp only [bL, List.drop, cY, ah, av, if_true]
   intro j hj
   simp only [and_self, if_true, ah, a7]
   exact hj _ _ (al.mk (h1 _ (by simp [jB, ht, hk]) hl _ a1))
 · refine h2 ?_ _ a1
   unfold jB
   split
   · rename_i t ht; rw [if_neg (hn t ht)]
   · rfl
def qh (kind : Int) (text : aZ) (n m at_ : Int) (kv : AV) : List AV := [.int .u8 kind, .str text, .int .i64 n, .int .i64 m, .int .i64 at_, .int .i64 0, kv]
def Grow (U : St) (v : AV) (e : TypeId) (sz n : Nat) (l : List AV) : Prop := (n = 0 /\ l = [] /\ v = .ag) \/ ∃ τ, v = .vec n (.own τ) l /\ U.tok τ = some ⟨n, e, sz⟩ /\ l.length = n * sz
def Qo (ay : St) (v : AV) : Prop := ∀ n τ l, v = .vec n (.own τ) l -> ay.live τ = none
theorem G7 {e sz n m : Nat} {v y : AV} {l l2 : List AV} {K' : AV -> St -> Prop} {Kp : AV -> St -> Prop} (hg : Grow U v e sz n l) (hy : oF U y = some (m, l2)) (hl : l2.length = m * sz) (hm : 0 < m) (hb : n + m <= 4294967296) (h0 : n = 0 -> v = .ag)
 (h : ∀ ad v', Grow ad v' e sz (n + m) (l ++ l2) -> (∀ b x, (∀ n l, v ≠ .vec n (.own b) l) -> U.live b = some x -> ad.live b = some x) -> (∀ n τ l, v' = .vec n (.own τ) l -> U.live τ = none \/ ∃ n l, v = .vec n (.own τ) l) -> K' v' ad) : (dS (some (e, sz)) false v y U).wp K U K' Kp := by
 rcases hg with ⟨rfl, rfl, rfl⟩ | ⟨τ, rfl, ht, B1⟩
 · have B5 : m ≠ 0 := by omega
   simp only [dS, hy, if_neg B5, bu, if_false, wp_cond]
   refine ⟨hl, by omega, fun b cZ => ?_⟩
   refine h _ _ (.inr ⟨b, by simp [NV.at], by rw [cD]; exact yw, by simp [hl]⟩) (fun c x hc hx => (bj cZ) c x hx) fun n τ l hv => ?_
   simp only [NV.at, AV.vec.injEq, hX.own.injEq] at hv
   exact .inl (hv.2.1 ▸ cZ.1)
 · have xU : n ≠ 0 := fun e => by have := h0 e; cases this
   simp only [dS, hy, wp_cond]
   refine ⟨hl, ⟨ht, B1, hb⟩, fun b cZ => ?_⟩
   refine h _ _ (.inr ⟨b, rfl, yw, by simp [hl, B1, Nat.add_mul]⟩) (fun c x hc hx => ?_) fun n' qB l' hv => ?_
   · refine (bj cZ) c x ?_
     have bW : c ≠ τ := fun e => hc n l (by rw [e])
     show (U.del τ).live c = some x
     rw [nF, if_neg bW]; exact hx
   · simp only [NV.at, AV.vec.injEq, hX.own.injEq] at hv
     have hf := cZ.1
     rw [<- hv.2.1]
     by_cases e : b = τ
     · subst e; exact .inr ⟨_, _, rfl⟩
     · left
       have : (U.del τ).live b = none := hf
       rw [nF, if_neg e] at this; exact this
structure Mk (ay U : St) (r k : Nat) (kind : Int) (text : aZ) (n m at_ : Int) (ks : List AV) : Prop where
 box : ∃ kv, U.box k = some (qh kind text n m at_ kv) /\ Grow U kv 87 1 ks.length ks /\ Qo ay kv /\ (ks = [] -> kv = .ag)
 new : ay.live k = none
 ne : k ≠ r
inductive dJ : Bool -> List AV -> List Nd -> Prop
 | mk {kind : Int} {text : aZ} {n m at_ : Int} {kv : AV} {ks : List AV} {l : List Nd} : dJ true ks l -> (ks = [] /\ kv = .ag \/ ∃ c, kv = .vec ks.length c ks) -> dJ false [.bY (qh kind text n m at_ kv)] (node kind text n m at_ l)
 | nil : dJ true [] []
 | cons {a : AV} {ks : List AV} {l l' : List Nd} : dJ false [a] l -> dJ true ks l' -> dJ true (a :: ks) (l ++ l')
theorem dJ.snoc {ks : List AV} {l : List Nd} {a : AV} {l' : List Nd} (h : dJ true ks l) (k : dJ false [a] l') : dJ true (ks ++ [a]) (l ++ l') := by
 generalize hb : true = b at h
 induction h with
 | mk _ _ _ => cases hb
 | nil => simpa using dJ.cons k dJ.nil
 | cons h1 h2 _ ih => rw [kf]; exact .cons h1 (ih rfl)
theorem dJ.one {a : AV} {l : List Nd} (k : dJ false [a] l) : dJ true [a] l := by simpa using dJ.cons k dJ.nil
section
variable {X : Rx} {r i j k : Nat} {ay U ad : St} {R : cu -> St -> Prop} {kind : Int} {text : aZ} {n m at_ : Int} {ks : List AV}
theorem Mk.fz {l : List AV} (M : Mk ay U r k kind text n m at_ ks) (a : eo r l U ad) {l' : List AV} (hr : U.box r = some l') : Mk ay ad r k kind text n m at_ ks := by
 obtain ⟨kv, h1, h2, h3, h4⟩ := M.box
 refine ⟨⟨kv, a.ex.bf M.ne h1, ?_, h3, h4⟩, M.new, M.ne⟩
 rcases h2 with h2 | ⟨τ, e, ht, hl⟩
 · exact .inl h2
 · exact .inr ⟨τ, e, a.ex.tok (eU hr ht).symm ht, hl⟩
theorem Mk.uZ (M : Mk ay U r k kind text n m at_ ks) {o w : Nat} {v : AV} {Od : Int} {OW : aZ} {n' m' Rt : Int} {K' : AV -> St -> Prop} {Kp : AV -> St -> Prop} {t : Bool}
 (hs : ∀ kv, v.cC = true /\ (au v).length = w /\ o + w <= (qh kind text n m at_ kv).length /\ aw (qh kind text n m at_ kv) o (au v) = qh Od OW n' m' Rt kv)
 {L : List AV} (A : eo r L ay U)
 (h : ∀ ad, Mk ay ad r k Od OW n' m' Rt ks -> eo r L ay ad -> K' (.aN []) ad) : (aF (some (t, w)) (.box k o) v U).wp K U K' Kp := by
 obtain ⟨kv, h1, h2, h3, h4⟩ := M.box
 obtain ⟨s1, s2, s3, s4⟩ := hs kv
 rw [cF h1, s4]
 refine ⟨⟨s1, s2, s3⟩, h _ ⟨⟨kv, aR, ?_, h3, h4⟩, M.new, M.ne⟩ ⟨by rw [aE M.ne.symm]; exact A.box, A.ex.set (.inl M.new)⟩⟩
 rcases h2 with h2 | ⟨τ, e, ht, hl⟩
 · exact .inl h2
 · exact .inr ⟨τ, e, by rw [iy (eU h1 ht).symm]; exact ht, hl⟩
theorem P3 (hr : U.box r = some (rd X i)) (kind : Int) (h : ∀ k ad, Mk U ad r k kind [] 0 0 (ef X.L X.E i) [] -> eo r (rd X i) U ad -> R (.ret (.box k 0)) ad) : ae K 99 [.box r 0, .int .u8 kind] U R := by
 refine MW ?_
 refine CS hr ?_
 refine pc [.int .u8 kind, .str [], .int .i64 0, .int .i64 0, .int .i64 (ef X.L X.E i), .int .i64 0] rfl ?_
 refine pc (qh kind [] 0 0 (ef X.L X.E i) .ag) rfl ?_
 rw [eC rfl]
 intro b hb
 exact al.mk (h b _ ⟨⟨_, aD, .inl ⟨rfl, rfl, rfl⟩, (fun _ _ _ e => by cases e), fun _ => rfl⟩, hb.1, (hb.cn hr).symm⟩ (.oK hr ((cm.refl U).new hb)))
theorem Fj {L : List AV} {mm : Nat} {c : hX} {l2 : List AV} (M : Mk ay U r k kind text n m at_ ks) (A : eo r L ay U) (hm : 0 < mm) (hl : l2.length = mm) (hb : ks.length + mm <= 4294967296)
 (h : ∀ ad, Mk ay ad r k kind text n m at_ (ks ++ l2) -> eo r L ay ad -> al R (.box k 0) ad) : ae K 103 [.box k 0, .vec mm c l2] U R := by
 refine Jk ?_
 obtain ⟨kv, h1, h2, h3, h4⟩ := M.box
 simp only [Jj, cW, ah, aU, fe h1, qh, List.drop, bB, cD]
 refine G7 h2 rfl (by simp [hl]) hm hb (fun e => h4 (pK.1 e)) fun bH v' g1 e1 n1 => ?_
 have k1 : bH.box k = some (qh kind text n m at_ kv) := by
  cases e : U.live k with
  | none => exact absurd e (bR h1)
  | some x =>
    have := e1 k x (fun n' l' hv => by
     rcases h2 with ⟨_, _, h2⟩ | ⟨τ, h2, ht, _⟩
     · rw [h2] at hv; cases hv
     · rw [h2] at hv; cases hv; exact eU h1 ht rfl) e
    rw [fZ (this.trans e.symm)]; exact h1
 have A1 : eo r L ay bH := by
  have key : ∀ b x, ay.live b = some x -> U.live b = some x -> bH.live b = some x := fun b x hx hy => e1 b x (fun n' l' hv => by rw [h3 _ _ _ hv] at hx; cases hx) hy
  refine ⟨?_, fun b x ZR hx => key b x hx (A.ex b x ZR hx)⟩
  cases e : U.live r with
  | none => exact absurd e (bR A.box)
  | some x =>
    have := e1 r x (fun n' l' hv => by
     rcases h2 with ⟨_, _, h2⟩ | ⟨τ, h2, ht, _⟩
     · rw [h2] at hv; cases hv
     · rw [h2] at hv; cases hv; exact eU A.box ht rfl) e
    rw [fZ (this.trans e.symm)]; exact A.box
 rw [cF k1]
 have bW : v' ≠ .ag := by
  rcases g1 with ⟨h0, _, _⟩ | ⟨τ, e, _⟩
  · omega
  · rw [e]; simp
 have cC : v'.cC = true /\ au v' = [v'] := by
  rcases g1 with ⟨h0, _, _⟩ | ⟨τ, e, _⟩
  · omega
  · rw [e]; exact ⟨rfl, rfl⟩
 refine ⟨⟨cC.1, by rw [cC.2]; rfl, by simp [qh]⟩, (h _ ⟨⟨v', ?_, ?_, fun n' qB l' hv => ?_, fun e => ?_⟩, M.new, M.ne⟩ ⟨by rw [aE M.ne.symm]; exact A1.box, A1.ex.set (.inl M.new)⟩)⟩
 · rw [aR, cC.2]; rfl
 · rw [ep, hl]
   rcases g1 with h0 | ⟨τ, e, ht, hl⟩
   · exact .inl h0
   · exact .inr ⟨τ, e, by rw [iy (eU k1 ht).symm]; exact ht, hl⟩
 · rcases n1 n' qB l' hv with hx | ⟨n2, l2', hx⟩
   · cases e : ay.live qB with
     | none => rfl
     | some x =>
       by_cases WZ : qB = r
       · subst WZ; exact absurd hx (bR A.box)
       · have := A.ex qB x WZ e; rw [hx] at this; cases this
   · exact h3 _ _ _ hx
 · have : l2 = [] := (List.append_eq_nil_iff.1 e).2
   subst this; simp at hl; omega
theorem Qq {L : List AV} {mm : Nat} {c : hX} {l2 : List AV} (M : Mk ay U r k kind text n m at_ ks) (A : eo r L ay U) (hm : 0 < mm) (hl : l2.length = mm) (hb : ks.length + mm <= 4294967296)
 (h : ∀ ad, Mk ay ad r k kind text n m at_ (ks ++ l2) -> eo r L ay ad -> R (.ret (.box k 0)) ad) : ae K 103 [.box k 0, .vec mm c l2] U R := Fj M A hm hl hb fun ad M A => al.mk (h ad M A)
theorem Mk.done {l : List AV} {ns : List Nd} (M : Mk ay U r k kind text n m at_ ks) (hk : dJ true ks ns) (A : eo r l ay U) (h : ∀ a ad, dJ false [a] (node kind text n m at_ ns) -> eo r l ay ad -> R (.ret a) ad) : al R (.box k 0) U := by
 obtain ⟨kv, h1, h2, h3, h4⟩ := M.box
 refine ⟨_, _, kr.freeze h1, h _ _ (.mk hk ?_) ⟨by rw [iq M.ne.symm]; exact A.box, A.ex.del (.inl M.new)⟩⟩
 rcases h2 with ⟨e1, e2, e3⟩ | ⟨τ, e, _, _⟩
 · exact .inl ⟨e2, e3⟩
 · exact .inr ⟨_, e⟩
end
end
end Go.Rip
namespace Go.Rip
open Go.Proofs Go.RowKit
structure Out (X : Rx) (r : Nat) (ay : St) (R : cu -> St -> Prop) (p : PR (List Nd)) : Prop where
 ok : ∀ ns j, p = .ok ns j -> j <= X.L.length -> ∀ a ad, dJ false [a] ns -> eo r (rd X j) ay ad -> R (.ret a) ad
 bad : ∀ j, p = .bad j -> ∀ ad, eo r (rd X j) ay ad -> R (.panic (Ej X j)) ad
def Ct (X : Rx) (f : FuncId) (i : Nat) (p : PR (List Nd)) : Prop := ∀ (r : Nat) (U : St) (R : cu -> St -> Prop), U.box r = some (rd X i) -> Out X r U R p -> ae K f [.box r 0] U R
structure Sk (X : Rx) (ay : St) (r k i : Nat) (kind : Int) (text : aZ) (n m at_ : Int) (l : List Nd) (U : St) : Prop where
 A : eo r (rd X i) ay U
 hi : i <= X.L.length
 M : ∃ ks, Mk ay U r k kind text n m at_ ks /\ dJ true ks l /\ ks.length <= i
section
variable {X : Rx} {ay U : St} {r k i : Nat} {kind : Int} {text : aZ} {n m at_ : Int} {l : List Nd} {R : cu -> St -> Prop} {K' : AV -> St -> Prop} {Kp : AV -> St -> Prop} {w : aZ} {f : FuncId}
theorem Sk.fz (S : Sk X ay r k i kind text n m at_ l U) {ad : St} {j : Nat} (A : eo r (rd X j) U ad) (hj : j <= X.L.length) (et : i <= j) : Sk X ay r k j kind text n m at_ l ad := by
 obtain ⟨ks, h1, h2, h3⟩ := S.M
 exact ⟨S.A.trans A, hj, ks, h1.fz A S.A.box, h2, by omega⟩
theorem Out.fz {ad : St} {p : PR (List Nd)} {L : List AV} (O : Out X r U R p) (A : eo r L U ad) : Out X r ad R p :=
 ⟨fun ns j h hj a bJ k A2 => O.ok ns j h hj a bJ k (A.trans A2), fun j h bJ A2 => O.bad j h bJ (A.trans A2)⟩
theorem fJ (hr : U.box r = some (rd X i)) (hi : i <= X.L.length) {kind : Int} (h : ∀ k ad, Sk X U r k i kind [] 0 0 (ef X.L X.E i) [] ad -> K' (.box k 0) ad) : ae K 99 [.box r 0, .int .u8 kind] U (ar K' Kp) :=
 P3 hr kind fun k ad M A => h k ad ⟨A, hi, [], M, .nil, by simp⟩
theorem dT {q : Unit -> Nat -> PR (List Nd)} (S : Sk X ay r k i kind text n m at_ l U) (O : Out X r ay R ((cx X.L w i).bind q)) (h : ∀ ad, Sk X ay r k (i + 1) kind text n m at_ l ad -> Out X r ay R (q () (i + 1)) -> K' (.aN []) ad) : ae K 102 [.box r 0, .str w] U (ar K' (aa R)) :=
 zl S.A.box S.hi w (fun e hl ad A => h ad (S.fz A hl (by omega)) (by rw [e] at O; exact O)) fun e ad A => O.bad _ (by rw [e]; rfl) _ (S.A.trans A)
theorem mB {q : aZ -> Nat -> PR (List Nd)} (S : Sk X ay r k i kind text n m at_ l U) (O : Out X r ay R ((hU X.L i).bind q)) (h : ∀ x ad, Sk X ay r k (i + 1) kind text n m at_ l ad -> Out X r ay R (q x (i + 1)) -> K' (.str x) ad) : ae K 101 [.box r 0] U (ar K' (aa R)) :=
 PM S.A.box S.hi (fun x e hl ad A => h x ad (S.fz A hl (by omega)) (by rw [e] at O; exact O)) fun e ad A => O.bad _ (by rw [e]; rfl) _ (S.A.trans A)
theorem oo {q : Int -> Nat -> PR (List Nd)} (S : Sk X ay r k i kind text n m at_ l U) (O : Out X r ay R ((jB X.L i).bind q)) (h : ∀ x ad, Sk X ay r k (i + 1) kind text n m at_ l ad -> Out X r ay R (q x (i + 1)) -> K' (.int .i64 x) ad) : ae K 168 [.box r 0] U (ar K' (aa R)) :=
 IP S.A.box S.hi (fun x e hl ad A => h x ad (S.fz A hl (by omega)) (by rw [e] at O; exact O)) fun e ad A => O.bad _ (by rw [e]; rfl) _ (S.A.trans A)
theorem yq (S : Sk X ay r k i kind text n m at_ l U) (h1 : cr X.L i w = true -> ∀ ad, Sk X ay r k (i + 1) kind text n m at_ l ad -> K' (.bool true) ad) (h2 : cr X.L i w = false -> ∀ ad, Sk X ay r k i kind text n m at_ l ad -> K' (.bool false) ad) : ae K 100 [.box r 0, .str w] U (ar K' Kp) :=
 CF S.A.box S.hi w (fun e ad A => h1 e ad (S.fz A (cU e) (by omega))) fun e ad A => h2 e ad (S.fz (.oK S.A.box A) S.hi (by omega))
theorem TB (S : Sk X ay r k i kind text n m at_ l U) (h : ∀ b ad, cr X.L i w = b -> Sk X ay r k i kind text n m at_ l ad -> K' (.bool b) ad) :
 (aH (some (9, 1)) (some [AV.str []]) 1 false [(0, .str w)]).wp K U (fun v U => ae K 105 [.box r 0, v] U (ar K' Kp)) Kp := by
 rw [gq]
 refine ⟨by omega, ?_⟩
 rw [eD (o := 0) (s := 1) rfl]
 refine ⟨⟨rfl, rfl, by simp [bw]⟩, ?_⟩
 rw [ib]
 refine ⟨rfl, ?_⟩
 refine Gb (l := [w]) S.A.box S.hi (by simp) fun bH e1 => ?_
 exact h _ _ (by rw [vF]) (S.fz (.oK S.A.box e1) S.hi (by omega))
theorem mC {x : aZ} (S : Sk X ay r k i kind text n m at_ l U) (h : ∀ ad, Sk X ay r k i kind x n m at_ l ad -> K' (.aN []) ad) : (aF (some (false, 1)) (.box k 1) (.str x) U).wp K U K' Kp := by
 obtain ⟨ks, h1, h2, h3⟩ := S.M
 exact h1.uZ (fun kv => ⟨rfl, rfl, by simp [qh], rfl⟩) S.A fun ad M A => h ad ⟨A, S.hi, ks, M, h2, h3⟩
theorem Qd {x : Int} (S : Sk X ay r k i kind text n m at_ l U) (h : ∀ ad, Sk X ay r k i x text n m at_ l ad -> K' (.aN []) ad) : (aF (some (false, 1)) (.box k 0) (.int .u8 x) U).wp K U K' Kp := by
 obtain ⟨ks, h1, h2, h3⟩ := S.M
 exact h1.uZ (fun kv => ⟨rfl, rfl, by simp [qh], rfl⟩) S.A fun ad M A => h ad ⟨A, S.hi, ks, M, h2, h3⟩
theorem GR {x : Int} (S : Sk X ay r k i kind text n m at_ l U) (h : ∀ ad, Sk X ay r k i kind text x m at_ l ad -> K' (.aN []) ad) : (aF (some (false, 1)) (.box k 2) (.int .i64 x) U).wp K U K' Kp := by
 obtain ⟨ks, h1, h2, h3⟩ := S.M
 exact h1.uZ (fun kv => ⟨rfl, rfl, by simp [qh], rfl⟩) S.A fun ad M A => h ad ⟨A, S.hi, ks, M, h2, h3⟩
theorem YS {x : Int} (S : Sk X ay r k i kind text n m at_ l U) (h : ∀ ad, Sk X ay r k i kind text n x at_ l ad -> K' (.aN []) ad) : (aF (some (false, 1)) (.box k 3) (.int .i64 x) U).wp K U K' Kp := by
 obtain ⟨ks, h1, h2, h3⟩ := S.M
 exact h1.uZ (fun kv => ⟨rfl, rfl, by simp [qh], rfl⟩) S.A fun ad M A => h ad ⟨A, S.hi, ks, M, h2, h3⟩
theorem C6 {a : AV} {ns : List Nd} {j : Nat} (S : Sk X ay r k j kind text n m at_ l U) (hj : ∀ ks, Mk ay U r k kind text n m at_ ks -> dJ true ks l -> ks.length <= j -> ∃ ks', Mk ay U r k kind text n m at_ ks' /\ dJ true ks' l /\ ks'.length + 1 <= j) (hk : dJ false [a] ns) (h : ∀ ad, Sk X ay r k j kind text n m at_ (l ++ ns) ad -> K' (.box k 0) ad) :
 (aH (some (87, 1)) (some [AV.aT]) 1 false [(0, a)]).wp K U (fun v U => ae K 103 [.box k 0, v] U (ar K' (aa R))) (aa R) := by
 have ha : a.cC = true /\ au a = [a] := by
  generalize hb : false = b at hk
  generalize hl : [a] = la at hk
  cases hk with
  | mk _ _ => cases hl; exact ⟨rfl, rfl⟩
  | nil => cases hl
  | cons _ _ => cases hb
 rw [gq]
 refine ⟨by omega, ?_⟩
 rw [eD (o := 0) (s := 1) rfl]
 refine ⟨⟨ha.1, by rw [ha.2]; rfl, by simp [bw]⟩, ?_⟩
 rw [ib]
 rw [ha.2]
 refine ⟨rfl, ?_⟩
 obtain ⟨Xc, g1, g2, g3⟩ := S.M
 obtain ⟨ks, h1, h2, h3⟩ := hj Xc g1 g2 g3
 have := X.small
 have hi := S.hi
 refine Qq (l2 := [a]) h1 S.A (by omega) rfl (by omega) fun ad M A => ?_
 exact h ad ⟨A, S.hi, _, M, h2.snoc hk, by simp; omega⟩
theorem jI {p : PR (List Nd)} {q : List Nd -> Nat -> PR (List Nd)} (S : Sk X ay r k i kind text n m at_ l U) (C : Ct X f i p) (hp : Gd X.L.length (i + 1) i p) (O : Out X r ay R (p.bind q))
 (h : ∀ ns j ad, j <= X.L.length -> i < j -> Sk X ay r k j kind text n m at_ (l ++ ns) ad -> Out X r ay R (q ns j) -> K' (.box k 0) ad) :
 ae K f [.box r 0] U (ar (fun v U => (aH (some (87, 1)) (some [AV.aT]) 1 false [(0, v)]).wp K U (fun v U => ae K 103 [.box k 0, v] U (ar K' (aa R))) (aa R)) (aa R)) := by
 refine C r U _ S.A.box ⟨fun ns j e hj a ad hk A => ?_, fun j e ad A => O.bad j (by rw [e]; rfl) ad (S.A.trans A)⟩
 rw [e] at hp O
 have et : i < j := hp.1
 have S1 := S.fz A hj (by omega)
 refine C6 S1 (fun ks _ _ _ => ?_) hk fun bJ S2 => h ns j bJ hj et S2 O
 obtain ⟨ks, h1, h2, h3⟩ := S.M
 exact ⟨ks, h1.fz A S.A.box, h2, by omega⟩
theorem ej (S : Sk X ay r k i kind text n m at_ l U) (O : Out X r ay R (.ok (node kind text n m at_ l) i)) : al R (.box k 0) U := by
 obtain ⟨ks, h1, h2, h3⟩ := S.M
 exact h1.done h2 S.A fun a ad hk A => O.ok _ _ rfl S.hi a ad hk A
theorem yg : aa (ar K' Kp) = Kp := rfl
theorem Bh {gu : FuncId} (he : dj K.P gu = true) {c : List AV} : (fo K.P (.func (.func gu) [.box r 0] []) []).wp K U K' Kp = ae K gu [.box r 0] U (ar K' Kp) := by
 simp [fo, he]
theorem PJ {one : Nat -> PR (List Nd)} {gu : FuncId} (he : dj K.P gu = true) (C : ∀ i, i <= X.L.length -> Ct X gu i (one i)) (hg : ∀ i, i <= X.L.length -> Gd X.L.length (i + 1) i (one i))
 {fu : Nat} (hf : X.L.length - i <= fu) (h0 : 0 < fu) {q : List Nd -> Nat -> PR (List Nd)} (S : Sk X ay r k i kind text n m at_ l U) (O : Out X r ay R ((vC X.L one fu i).bind q))
 (h : ∀ ns j ad, j <= X.L.length -> i < j -> Sk X ay r k j kind text n m at_ (l ++ ns) ad -> Out X r ay R (q ns j) -> K' (.aN []) ad) : ae K 106 [.box r 0, .box k 0, .func (.func gu) [.box r 0] []] U (ar K' (aa R)) := by
 refine AD ?_
 unfold C1
 rw [Bh he (c := [])]
 have e : (vC X.L one fu i).bind q = (one i).bind fun a j => (oX X.L one fu a j).bind q := by
  unfold vC; cases one i <;> rfl
 rw [e] at O
 simp only [yg]
 refine jI S (C i S.hi) (hg i S.hi) O fun ns j bH hj et S1 O1 => ?_
 refine ⟨fun mm v0 v1 v2 ad => ∃ acc j f', mm = X.L.length - j /\ v0 = .box r 0 /\ v1 = .box k 0 /\ v2 = .func (.func gu) [.box r 0] [] /\ j <= X.L.length /\ i < j /\ X.L.length - j < f' /\ Sk X ay r k j kind text n m at_ (l ++ acc) ad /\ Out X r ay R ((oX X.L one f' acc j).bind q),
  ⟨_, ns, j, fu, rfl, rfl, rfl, rfl, hj, et, by omega, S1, O1⟩, ?_⟩
 rintro mm v0 v1 v2 bJ ⟨acc, j2, f', rfl, rfl, rfl, rfl, po, zc, R4, S2, O2⟩
 cases f' with
 | zero => omega
 | succ f' =>
   unfold oX at O2
   refine yq S2 (fun hw c7 S3 => ?_) (fun hw c7 S3 => ?_)
   · simp only [bq]
     rw [if_pos hw] at O2
     have aK := cU hw
     rw [Bh he (c := [])]
     have e2 : ((one (j2 + 1)).bind fun b j => oX X.L one f' (acc ++ b) j).bind q = (one (j2 + 1)).bind fun b j => (oX X.L one f' (acc ++ b) j).bind q := by
      cases one (j2 + 1) <;> rfl
     rw [e2] at O2
     refine jI S3 (C _ aK) (hg _ aK) O2 fun SX j3 cH Sa X8 S4 O4 => ?_
     refine ⟨_, ?_, acc ++ SX, j3, f', rfl, rfl, rfl, rfl, Sa, by omega, by omega, by rw [<- kf]; exact S4, O4⟩
     omega
   · simp only [a7]
     rw [if_neg (by rw [hw]; simp)] at O2
     exact al.mk (h acc j2 c7 po zc S3 O2)
end
end Go.Rip
