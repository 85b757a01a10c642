/- Lemmas for the proof: no conditions. -/
import Derived.Test.YtnfpmiiopiinbaaGreatDoorRipZz
import Derived.Test.YtnfpmiiopiinbaaGreatDoorRipM
import Derived.Test.YtnfpmiiopiinbaaGreatDoorRipF
import Derived.Test.YtnfpmiiopiinbaaGreatDoorRipG
import Derived.Test.YtnfpmiiopiinbaaGreatDoorRipH
import Derived.Test.YtnfpmiiopiinbaaGreatDoorRipE
set_option linter.unusedVariables false
set_option linter.unusedSimpArgs false
set_option linter.loopingSimpArgs false
namespace Go.Rip
open Go.RowKit
structure Rx where
 L : List Tk
 E : Nat
 tv : AV
 tr : iJ tv L.length (ib L)
 ok : ∀ t ∈ L, lM t
 small : L.length <= 900
def rd (X : Rx) (i : Nat) : List AV := [X.tv, .int .i64 i, .int .i64 X.E, Aw, qG]
def H7 (X : Rx) (i : Nat) : AV := .iface 136 (.agg [.int .i64 (bM X.L X.E i)])
theorem iJ.len {v : AV} {n : Nat} {cs : List AV} (h : iJ v n cs) : bD (some false) v = .val (.int .i64 n) := by
 rcases h with ⟨rfl, rfl, rfl⟩ | ⟨c, rfl⟩ <;> rfl
theorem iJ.at {v : AV} {n : Nat} {cs : List AV} (h : iJ v n cs) {sz e j : Nat} (hj : j < n) : ∃ c, v = .vec n c cs /\ aH (some (e, sz)) none v (.int .i64 (j : Int)) = .cond (0 <= (j : Int) /\ (j : Int) < n) (.val (.cP (cs.drop (j * sz)))) := by
 rcases h with ⟨rfl, rfl, rfl⟩ | ⟨c, rfl⟩
 · omega
 · exact ⟨c, rfl, by simp⟩
theorem zA : ∀ i, closed (K.xH i) = true := fun i => by
 show closed (if i = 0 then .cP uP else if i = 7 then .cP vo else .any) = true
 split
 · kernel_rfl
 · split
   · kernel_rfl
   · rfl
theorem Pure.of {f : Nat} {args : List AV} {x : AV} (hargs : cL args = true) (hx : closed x = true) (hr : ∀ U, resolve 5 U x = x)
 (h : ∀ R : cS -> St -> Prop, (∀ af, R (.ret x) af) -> ad K f args (bX ⟨.e, 0⟩) R) : Pure K f args x :=
 Pure.za zA hargs hx 5 (h _ fun af => ⟨x, rfl, hr af⟩)
def idx (l : List aZ) (s : aZ) : Int := match l.findIdx? (· = s) with | some i => i | none => -1
theorem JX (c : kh) (l : List aZ) (s : aZ) (hn : l.length <= 100000) : Pure K 230 [.vec l.length c (l.map .str), .str s] (.int .i64 (idx l s)) := by
 intro U R hR
 refine PG ?_
 simp only [PF, pH, aj]
 refine ⟨fun m v0 v1 v7 v8 af => ∃ i : Nat, m = l.length - i /\ i <= l.length /\ v0 = .vec l.length c (l.map .str) /\ v1 = .str s /\ v7 = .int .i64 l.length /\ v8 = .int .i64 i /\ af = U /\ ∀ j, j < i -> l[j]? ≠ some s, ⟨l.length, 0, by simp [Fn.app]⟩, ?_⟩
 intro m v0 v1 v7 v8 af hI
 obtain ⟨i, rfl, hi, rfl, rfl, rfl, rfl, rfl, fM⟩ := hI
 simp only [bh, aj, aT]
 refine ⟨fun aL => ?_, fun gk => ?_⟩
 · have aL : i < l.length := by omega
   have hd : (l.map AV.str).drop (i * 1) = .str l[i] :: (l.map AV.str).drop (i + 1) := by
    rw [Nat.mul_one, gX (by simpa using aL)]; simp
   simp only [xi, wp_cond, aj, dR, hd, tP, dO, iV, aT]
   refine ⟨by omega, fun he => ?_, fun cH => ?_⟩
   · refine al.eq hR ?_
     have : l.findIdx? (· = s) = some i := by
      rw [C1]
      refine ⟨aL, by simp [he], fun j hj => ?_⟩
      have := fM j hj
      rw [jQ (by omega)] at this
      simpa using this
     simp [idx, this]
   · simp only [k9, hM, wp_cond, aj]
     refine ⟨bp (by omega) (by omega), ?_⟩
     refine ⟨l.length - (i + 1), by omega, i + 1, rfl, by omega, rfl, rfl, rfl, by simp, rfl, fun j hj => ?_⟩
     · rcases eZ j i with h | h
       · exact fM j h
       · have : j = i := by omega
         subst this
         rw [jQ aL]; simpa using fun h => cH h.symm
 · refine al.eq hR ?_
   have : l.findIdx? (· = s) = none := by
    rw [List.findIdx?_eq_none_iff]
    intro x hx
    obtain ⟨j, hj, rfl⟩ := List.getElem_of_mem hx
    have := fM j (by omega)
    rw [jQ hj] at this
    simpa using this
   simp [idx, this]
section
variable {X : Rx} {r i : Nat} {U : St} {R : cS -> St -> Prop}
theorem Gt (hr : U.box r = some (rd X i)) (h : R (.ret (.int .i64 (bM X.L X.E i))) U) : ad K 164 [.box r 0] U R := by
 refine OI ?_
 simp only [OH, bu, aJ, aR, ld hr, rd, List.drop, dO, X.tr.len, bh, aT, aj, bW]
 refine ⟨fun aL => ?_, fun gk => ?_⟩
 · have aL : i < X.L.length := by omega
   obtain ⟨c, hv, lD⟩ := X.tr.at (sz := 3) (e := 51) aL
   obtain ⟨t, ht⟩ : ∃ t, X.L[i]? = some t := ⟨X.L[i], by simp [aL]⟩
   obtain ⟨rest, hd⟩ := pO ht
   simp only [lD, jX, aJ, hd, eH, tP, jo, nT, oJ, List.drop, dO]
   refine ⟨by omega, al.mk ?_⟩
   have : bM X.L X.E i = t.at_ := by simp [bM, ht]
   rw [<- this]; exact h
 · refine al.mk ?_
   have : bM X.L X.E i = X.E := by simp [bM, l9 (show X.L.length <= i by omega)]
   rw [<- this]; exact h
def pN : Option Tk -> List AV
 | some t => jo t
 | none => [.int .u8 0, .str [], .int .i64 0]
theorem pt (hr : U.box r = some (rd X i)) (hi : i <= X.L.length) (k : Nat) (hk : k <= 10) (h : ∀ af, dr U af -> R (.ret (.agg (pN X.L[i + k]?))) af) : ad K 167 [.box r 0, .int .i64 k] U R := by
 refine OM ?_
 have hs := X.small
 simp only [OL, oc]
 intro b hb
 have Yu := hb.da hr
 have xd : (U.new b (.box [AV.int .u8 0, AV.str [], AV.int .i64 0])).box r = some (rd X i) := by rw [og Yu]; exact hr
 have hY : (U.new b (.box [AV.int .u8 0, AV.str [], AV.int .i64 0])).box b = some [AV.int .u8 0, AV.str [], AV.int .i64 0] := aW
 simp only [NV.at, bu, aJ, aR, ld xd, rd, List.drop, dO, X.tr.len, k9, hM, jX, bh, aT, aj, bW]
 refine ⟨bp (by omega) (by omega), fun aL => ?_, fun gk => ?_⟩
 · have aL : i + k < X.L.length := by omega
   obtain ⟨c, hv, lD⟩ := X.tr.at (sz := 3) (e := 51) aL
   obtain ⟨t, ht⟩ : ∃ t, X.L[i + k]? = some t := ⟨X.L[i + k], by simp [aL]⟩
   obtain ⟨rest, hd⟩ := pO ht
   rw [<- Int.natCast_add]
   simp only [lD, jX, aJ, hd, Kj, yH hY, wp_cond, k0]
   refine ⟨bp (by omega) (by omega), by omega, by simp [jo], by simp [jo], ?_⟩
   rw [uw (Ms (bf) 3 0)]
   refine ⟨by simp [az, jo], ?_⟩
   refine al.eq (h _ (((dr.refl U).new hb).set hb.1)) ?_
   simp [az, jo, ht, pN]
 · simp only [bE, fE, aj, yH hY, wp_cond, k0]
   refine ⟨by simp, ?_⟩
   rw [uw (Ms (bf) 3 0)]
   refine ⟨by simp [az], ?_⟩
   refine al.eq (h _ (((dr.refl U).new hb).set hb.1)) ?_
   simp [az, l9 (show X.L.length <= i + k by omega), pN]
def uy (o : Option Tk) (l : List aZ) : Bool := match o with
 | some t => (t.k == 3 || t.k == 4) && decide (t.s ∈ l)
 | none => false
theorem JW (l : List aZ) (s : aZ) : decide (0 <= idx l s) = decide (s ∈ l) := by
 unfold idx
 split
 · rename_i j hj
   obtain ⟨h1, h2, _⟩ := C1.1 hj
   have : s ∈ l := by have := of_decide_eq_true h2; exact this ▸ qU h1
   simp [this]
 · rename_i hj
   rw [List.findIdx?_eq_none_iff] at hj
   have : s ∉ l := fun hm => by simpa using hj s hm
   simp [this]
theorem Ei (c : kh) (l : List aZ) (s : aZ) (hn : l.length <= 100000) : Pure K 178 [.vec l.length c (l.map .str), .str s] (.bool (decide (s ∈ l))) := by
 intro U R hR
 refine O9 ?_
 refine (JX c l s hn).go ?_
 simp only [fg, aj]
 refine al.eq hR ?_
 rw [JW]
theorem Aq {c : kh} (o : Option Tk) (l : List aZ) (hn : l.length <= 100000) (h : ∀ af, dr U af -> R (.ret (.bool (uy o l))) af) : ad K 121 [.agg (pN o), .vec l.length c (l.map .str)] U R := by
 refine NK ?_
 have hl : ∃ k s a, pN o = [.int .u8 k, .str s, .int .i64 a] /\ uy o l = ((decide (k = 3) || decide (k = 4)) && decide (s ∈ l)) := by
  cases o with
  | none => exact ⟨0, [], 0, rfl, rfl⟩
  | some t => exact ⟨t.k, t.s, t.at_, rfl, by
     have e : ∀ m : Nat, (t.k == m) = decide ((t.k : Int) = (m : Int)) := fun m => by
      rw [nq]; simp; omega
     simp only [uy, e 3, e 4]; rfl⟩
 obtain ⟨k, s, a, e1, e2⟩ := hl
 rw [e1]
 simp only [NJ, Dg _ (Rm _), wp_cond, true_and, xA, oc]
 intro b_ hb
 have hY : (U.new b_ (.box [.int .u8 k, .str s, .int .i64 a])).box b_ = some [.int .u8 k, .str s, .int .i64 a] := aW
 have hx := h _ ((dr.refl U).new (x := .box [.int .u8 k, .str s, .int .i64 a]) hb)
 rw [e2] at hx
 simp only [NV.at, aR, aj, ld hY, List.drop, dO, aV, aS, aM, iz, bW]
 have hin := Ei c l s hn
 have step : ∀ b : Bool, ((decide (k = 3) || decide (k = 4)) && decide (s ∈ l)) = b -> al R (.bool b) (U.new b_ (.box [.int .u8 k, .str s, .int .i64 a])) := fun b e => by subst e; exact al.mk hx
 by_cases h3 : k = 3
 · subst h3
   simp [ld hY]
   exact ⟨_, hin, step _ (by simp)⟩
 · by_cases h4 : k = 4
   · subst h4
     simp [ld hY]
     exact ⟨_, hin, step _ (by simp)⟩
   · simp [ld hY, h3, h4]
     exact step _ (by simp [h3, h4])
theorem Hi (s w : aZ) : decide (s ∈ [w]) = (s == w) := by
 by_cases h : s = w
 · simp [h]
 · simp [h]
theorem zb (L : List Tk) (i : Nat) (w : aZ) : uy L[i]? [w] = bl L i w := by
 unfold uy bl
 split
 · rename_i t ht; rw [ht, Hi]
 · rename_i ht; rw [ht]
theorem J3 {c : kh} (hr : U.box r = some (rd X i)) (hi : i <= X.L.length) (l : List aZ) (hn : l.length <= 100000) (h : ∀ af, dr U af -> R (.ret (.bool (uy X.L[i]? l))) af) : ad K 105 [.box r 0, .vec l.length c (l.map .str)] U R := by
 refine Ng ?_
 refine pt hr hi 0 (by omega) fun bP e1 => ?_
 refine Aq (X.L[i]?) l hn fun bI e2 => ?_
 exact al.mk (h _ (e1.trans e2))
theorem Gb (hr : U.box r = some (rd X i)) (hi : i <= X.L.length) (w : aZ)
 (h1 : bl X.L i w = true -> ∀ af, eg r (rd X (i + 1)) U af -> R (.ret (.bool true)) af) (h2 : bl X.L i w = false -> ∀ af, dr U af -> R (.ret (.bool false)) af) : ad K 100 [.box r 0, .str w] U R := by
 refine M7 ?_
 have hs := X.small
 simp only [M6, aA, fE, Di, Rq, bB, wp_cond, aj, az, List.take, List.drop, oJ, nT, mB]
 refine ⟨by omega, by simp, by simp, ?_⟩
 refine J3 (l := [w]) hr hi (by simp) fun bP e1 => ?_
 have xd := e1.bU hr
 simp only [bg, cZ, aj, zb]
 cases hw : bl X.L i w with
 | false => simp only [dk, aK]; exact al.mk (h2 hw _ e1)
 | true =>
   simp only [cC, aE, bu, aj, aR, ld xd, rd, List.drop, dO, bW, k9, hM, wp_cond, yH xd, k0]
   refine ⟨bp (by omega) (by omega), by simp, al.mk (h1 hw _ ⟨?_, (e1.rz (r := r)).set (.inr rfl)⟩)⟩
   rw [bf]; simp [az, rd]
theorem H5 (hr : U.box r = some (rd X i)) (h : R (.panic (H7 X i)) U) : ad K 166 [.box r 0] U R := by
 refine OK ?_
 refine Gt hr ?_
 simp only [bg, bE, fE, Dh, Rp, wp_cond, aj, az, wh, if_true, th, SJ]
 refine ⟨by simp, ?_⟩
 exact h
theorem CT (hr : U.box r = some (rd X i)) (hi : i <= X.L.length) (w : aZ)
 (h1 : bm X.L w i = .ok () (i + 1) -> i + 1 <= X.L.length -> ∀ af, eg r (rd X (i + 1)) U af -> R (.ret (.aU [])) af) (h2 : bm X.L w i = .bad i -> ∀ af, eg r (rd X i) U af -> R (.panic (H7 X i)) af) : ad K 102 [.box r 0, .str w] U R := by
 refine M9 ?_
 refine Gb hr hi w (fun hw bP a1 => ?_) (fun hw bP e1 => ?_)
 · simp only [bg, cZ, aj, cC, aE]
   exact al.mk (h1 (by simp [bm, hw]) (cu hw) _ a1)
 · simp only [bg, cZ, aj, dk, aK]
   exact H5 (e1.bU hr) (h2 (by simp [bm, hw]) _ (.pK hr e1))
theorem tY (o : Option Tk) : ∃ k : Int, ∃ s a, pN o = [.int .u8 k, .str s, .int .i64 a] /\ (∀ m : Nat, 0 < m -> (k = (m : Int) ↔ ∃ t, o = some t /\ t.k = m /\ t.s = s)) := by
 cases o with
 | none => exact ⟨0, [], 0, rfl, fun m hm => ⟨fun h => by omega, fun ⟨t, h, _⟩ => by cases h⟩⟩
 | some t => exact ⟨t.k, t.s, t.at_, rfl, fun m hm => ⟨fun h => ⟨t, rfl, by omega, rfl⟩, fun ⟨u, h, h2, h3⟩ => by cases h; omega⟩⟩
theorem MM (hr : U.box r = some (rd X i)) (hi : i <= X.L.length) (k : Nat) (hk : 0 < k)
 (h1 : ∀ t, X.L[i]? = some t -> t.k = k -> i + 1 <= X.L.length -> ∀ af, eg r (rd X (i + 1)) U af -> R (.ret (.str t.s)) af) (h2 : (∀ t, X.L[i]? = some t -> t.k ≠ k) -> ∀ af, eg r (rd X i) U af -> R (.panic (H7 X i)) af) : ad K 165 [.box r 0, .int .u8 k] U R := by
 refine OJ ?_
 have hs := X.small
 refine pt hr hi 0 (by omega) fun bP e1 => ?_
 have xd := e1.bU hr
 obtain ⟨m, s, a, e, hm⟩ := tY X.L[i + 0]?
 rw [e]
 simp only [bg, oc]
 intro b hb
 have Yu := hb.da xd
 have e2 := e1.new (x := .box [AV.int .u8 0, AV.str [], AV.int .i64 0]) hb
 have hY : (bP.new b (.box [AV.int .u8 0, AV.str [], AV.int .i64 0])).box b = some [AV.int .u8 0, AV.str [], AV.int .i64 0] := aW
 simp only [NV.at, yH hY, wp_cond, k0]
 refine ⟨by simp, ?_⟩
 have e3 := e2.set (x := .box (az [AV.int .u8 0, AV.str [], AV.int .i64 0] 0 (aC (.agg [.int .u8 m, .str s, .int .i64 a])))) (e1.fresh hb.1)
 generalize rZ : (bP.new b (.box [AV.int .u8 0, AV.str [], AV.int .i64 0])).set b (.box (az [AV.int .u8 0, AV.str [], AV.int .i64 0] 0 (aC (.agg [.int .u8 m, .str s, .int .i64 a])))) = bQ at e3 ⊢
 have lB : bQ.box b = some [.int .u8 m, .str s, .int .i64 a] := by rw [<- rZ, bf]; rfl
 have xe := e3.bU hr
 intro j hj
 simp only [aR, aj, ld lB, List.drop, dO, bW, cg, ao, Bool.not_eq_true', decide_eq_false_iff_not, Bool.not_eq_false', ej]
 refine ⟨fun cH => ?_, fun heq => ?_⟩
 · refine H5 xe ?_
   exact h2 (fun t ht he => cH ((hm k hk).2 ⟨t, ht, he, by rw [Nat.add_zero, ht] at e; cases e; rfl⟩)) _ (.pK hr e3)
 · obtain ⟨t, ht, oA, BA⟩ := (hm k hk).1 heq
   have aL := (dP.1 ht).1
   refine hj _ _ _ ?_
   simp only [bu, aj, aR, ld xe, rd, List.drop, dO, bW, k9, hM, wp_cond, yH xe, k0]
   refine ⟨bp (by omega) (by omega), by simp, ?_⟩
   rw [k0]
   generalize FU : bQ.set r _ = cz
   have wW : cz.box b = some [.int .u8 m, .str s, .int .i64 a] := by rw [<- FU, bK (Ne.symm Yu)]; exact lB
   have sX : cz.box r = some (rd X (i + 1)) := by rw [<- FU, bf]; simp [az, rd]
   have e4 : gj r U cz := by rw [<- FU]; exact (e3.rz (r := r)).set (.inr rfl)
   simp only [ld wW, List.drop, dO, aj]
   refine al.mk ?_
   rw [<- BA]
   exact h1 t ht oA aL _ ⟨sX, e4⟩
theorem UX (hr : U.box r = some (rd X i)) (hi : i <= X.L.length)
 (h1 : ∀ x, dM X.L i = .ok x (i + 1) -> i + 1 <= X.L.length -> ∀ af, eg r (rd X (i + 1)) U af -> R (.ret (.str x)) af) (h2 : dM X.L i = .bad i -> ∀ af, eg r (rd X i) U af -> R (.panic (H7 X i)) af) : ad K 101 [.box r 0] U R := by
 refine M8 ?_
 refine MM hr hi 1 (by omega) (fun t ht hk hl bP a1 => ?_) (fun hn bP a1 => ?_)
 · exact al.mk (h1 t.s (by simp [dM, ht, hk]) hl _ a1)
 · refine h2 ?_ _ a1
   unfold dM
   split
   · rename_i t ht; rw [if_neg (hn t ht)]
   · rfl
end
end Go.Rip
namespace Go.Rip
open Go.Proofs Go.RowKit
theorem Pure.ML {f : FuncId} {args : List AV} {vs : List Value} {x : AV} {v : Value} (hargs : ∀ g us, aN g args us -> us = vs) (hx : ∀ g, aB g x v)
 (h : ∀ w, Calls K.P f vs.toArray w fun e w' => e = .returned v /\ w.grownBy w' none) : Pure K f args x := by
 intro U R hR g w us hs hG ha
 have := hargs g us ha
 subst this
 refine callsIn_wide.2 ((h w).mono fun e w' ⟨h1, h2⟩ => ?_)
 subst h1
 exact ⟨g, U, x, Gh.Le.refl g, hs.grow h2, hx g, hR⟩
theorem Hf (w : World) (e : TypeId) (s : ByteArray) : w.grownBy (Lib.bytesWorld w e s) none := by
 have cH : ∀ q, q < w.heap.size -> w.heap.size ≠ q := fun q h => by omega
 unfold Lib.bytesWorld World.freeze
 split
 · exact ⟨rfl, rfl, rfl, by simp [World.alloc, World.drew, -World.alloc_eq, -World.drew_eq], fun q hq _ => by simp [World.alloc, World.drew, -World.alloc_eq, -World.drew_eq, Array.getElem?_push, Nat.ne_of_lt hq]⟩
 · refine ⟨rfl, rfl, rfl, by simp [World.alloc, World.drew, -World.alloc_eq, -World.drew_eq], fun q hq _ => ?_⟩
   simp [World.alloc, World.drew, -World.alloc_eq, -World.drew_eq, Array.getElem?_modify, Array.getElem?_push, cH q hq, Nat.ne_of_lt hq]
theorem K6 (s : aZ) (h0 : s ≠ []) (h : ky s = 0) : Pure K 218 [.str s] (.aU [.int .i64 (uj s), .dq]) := by
 obtain ⟨h1, h2, _⟩ := yf h0 h
 refine Pure.ML (vs := [.string ⟨s.toArray⟩]) (v := .tuple #[.int .i64 (uj s), .nilIface]) (fun g us hr => RM hr) (fun g => by simp [aB, aN]) fun w => ?_
 refine (Tryz.strconv_Atoi ⟨s.toArray⟩ (uj s) (by show s.toArray.size <= 18; simp; omega) (Qo h0 (CV h).1) w).mono fun e w' ⟨he, t, hw⟩ => ⟨he, ?_⟩
 subst hw
 exact Hf _ _ _
section
variable {X : Rx} {r i : Nat} {U : St} {R : cS -> St -> Prop}
theorem MJ (hr : U.box r = some (rd X i)) (hi : i <= X.L.length)
 (h1 : ∀ x, fQ X.L i = .ok x (i + 1) -> i + 1 <= X.L.length -> ∀ af, eg r (rd X (i + 1)) U af -> R (.ret (.int .i64 x)) af) (h2 : fQ X.L i = .bad i -> ∀ af, eg r (rd X i) U af -> R (.panic (H7 X i)) af) : ad K 168 [.box r 0] U R := by
 refine ON ?_
 refine MM hr hi 2 (by omega) (fun t ht hk hl bP a1 => ?_) (fun hn bP a1 => ?_)
 · have cW := X.ok t (gK ht)
   refine (K6 t.s cW.1 (CY cW hk)).go ?_
   simp only [bC, List.drop, dO, aj, aq, if_true]
   intro j hj
   simp only [and_self, if_true, aj, aE]
   exact hj _ _ (al.mk (h1 _ (by simp [fQ, ht, hk]) hl _ a1))
 · refine h2 ?_ _ a1
   unfold fQ
   split
   · rename_i t ht; rw [if_neg (hn t ht)]
   · rfl
def kT (kind : Int) (text : aZ) (n m at_ : Int) (kv : AV) : List AV := [.int .u8 kind, .str text, .int .i64 n, .int .i64 m, .int .i64 at_, .int .i64 0, kv]
def Grow (U : St) (v : AV) (e : TypeId) (sz n : Nat) (l : List AV) : Prop := (n = 0 /\ l = [] /\ v = .ak) \/ ∃ τ, v = .vec n (.own τ) l /\ U.tok τ = some ⟨n, e, sz⟩ /\ l.length = n * sz
def Vy (ay : St) (v : AV) : Prop := ∀ n τ l, v = .vec n (.own τ) l -> ay.live τ = none
theorem uc {e sz n m : Nat} {v y : AV} {l l2 : List AV} {K' : AV -> St -> Prop} {Kp : AV -> St -> Prop} (hg : Grow U v e sz n l) (hy : qp U y = some (m, l2)) (hl : l2.length = m * sz) (hm : 0 < m) (hb : n + m <= 4294967296) (h0 : n = 0 -> v = .ak)
 (h : ∀ af v', Grow af v' e sz (n + m) (l ++ l2) -> (∀ b x, (∀ n l, v ≠ .vec n (.own b) l) -> U.live b = some x -> af.live b = some x) -> (∀ n τ l, v' = .vec n (.own τ) l -> U.live τ = none \/ ∃ n l, v = .vec n (.own τ) l) -> K' v' af) : (dc (some (e, sz)) false v y U).wp K U K' Kp := by
 rcases hg with ⟨rfl, rfl, rfl⟩ | ⟨τ, rfl, ht, Bu⟩
 · have LP : m ≠ 0 := by omega
   simp only [dc, hy, if_neg LP, bH, if_false, wp_cond]
   refine ⟨hl, by omega, fun b eA => ?_⟩
   refine h _ _ (.inr ⟨b, by simp [NV.at], by rw [bW]; exact wG, by simp [hl]⟩) (fun c x hc hx => (cE eA) c x hx) fun n τ l hv => ?_
   simp only [NV.at, AV.vec.injEq, kh.own.injEq] at hv
   exact .inl (hv.2.1 ▸ eA.1)
 · have xS : n ≠ 0 := fun e => by have := h0 e; cases this
   simp only [dc, hy, wp_cond]
   refine ⟨hl, ⟨ht, Bu, hb⟩, fun b eA => ?_⟩
   refine h _ _ (.inr ⟨b, rfl, wG, by simp [hl, Bu, Nat.add_mul]⟩) (fun c x hc hx => ?_) fun n' sb l' hv => ?_
   · refine (cE eA) c x ?_
     have cH : c ≠ τ := fun e => hc n l (by rw [e])
     show (U.del τ).live c = some x
     rw [jz, if_neg cH]; exact hx
   · simp only [NV.at, AV.vec.injEq, kh.own.injEq] at hv
     have hf := eA.1
     rw [<- hv.2.1]
     by_cases e : b = τ
     · subst e; exact .inr ⟨_, _, rfl⟩
     · left
       have : (U.del τ).live b = none := hf
       rw [jz, if_neg e] at this; exact this
structure Mk (ay U : St) (r k : Nat) (kind : Int) (text : aZ) (n m at_ : Int) (ks : List AV) : Prop where
 box : ∃ kv, U.box k = some (kT kind text n m at_ kv) /\ Grow U kv 87 1 ks.length ks /\ Vy ay kv /\ (ks = [] -> kv = .ak)
 new : ay.live k = none
 ne : k ≠ r
inductive dI : Bool -> List AV -> List Nd -> Prop
 | mk {kind : Int} {text : aZ} {n m at_ : Int} {kv : AV} {ks : List AV} {l : List Nd} : dI true ks l -> (ks = [] /\ kv = .ak \/ ∃ c, kv = .vec ks.length c ks) -> dI false [.cP (kT kind text n m at_ kv)] (node kind text n m at_ l)
 | nil : dI true [] []
 | cons {a : AV} {ks : List AV} {l l' : List Nd} : dI false [a] l -> dI true ks l' -> dI true (a :: ks) (l ++ l')
theorem dI.snoc {ks : List AV} {l : List Nd} {a : AV} {l' : List Nd} (h : dI true ks l) (k : dI false [a] l') : dI true (ks ++ [a]) (l ++ l') := by
 generalize hb : true = b at h
 induction h with
 | mk _ _ _ => cases hb
 | nil => simpa using dI.cons k dI.nil
 | cons h1 h2 _ ih => rw [qT]; exact .cons h1 (ih rfl)
theorem dI.one {a : AV} {l : List Nd} (k : dI false [a] l) : dI true [a] l := by simpa using dI.cons k dI.nil
section
variable {X : Rx} {r i j k : Nat} {ay U af : St} {R : cS -> St -> Prop} {kind : Int} {text : aZ} {n m at_ : Int} {ks : List AV}
theorem Mk.fB {l : List AV} (M : Mk ay U r k kind text n m at_ ks) (a : eg r l U af) {l' : List AV} (hr : U.box r = some l') : Mk ay af r k kind text n m at_ ks := by
 obtain ⟨kv, h1, h2, h3, h4⟩ := M.box
 refine ⟨⟨kv, a.ex.bU M.ne h1, ?_, h3, h4⟩, M.new, M.ne⟩
 rcases h2 with h2 | ⟨τ, e, ht, hl⟩
 · exact .inl h2
 · exact .inr ⟨τ, e, a.ex.tok (iu hr ht).symm ht, hl⟩
theorem Mk.yH (M : Mk ay U r k kind text n m at_ ks) {o w : Nat} {v : AV} {Tz : Int} {Up : aZ} {n' m' Xj : Int} {K' : AV -> St -> Prop} {Kp : AV -> St -> Prop} {t : Bool}
 (hs : ∀ kv, v.cN = true /\ (aC v).length = w /\ o + w <= (kT kind text n m at_ kv).length /\ az (kT kind text n m at_ kv) o (aC v) = kT Tz Up n' m' Xj kv)
 {L : List AV} (A : eg r L ay U)
 (h : ∀ af, Mk ay af r k Tz Up n' m' Xj ks -> eg r L ay af -> K' (.aU []) af) : (aD (some (t, w)) (.box k o) v U).wp K U K' Kp := by
 obtain ⟨kv, h1, h2, h3, h4⟩ := M.box
 obtain ⟨s1, s2, s3, s4⟩ := hs kv
 rw [cT h1, s4]
 refine ⟨⟨s1, s2, s3⟩, h _ ⟨⟨kv, bf, ?_, h3, h4⟩, M.new, M.ne⟩ ⟨by rw [bK M.ne.symm]; exact A.box, A.ex.set (.inl M.new)⟩⟩
 rcases h2 with h2 | ⟨τ, e, ht, hl⟩
 · exact .inl h2
 · exact .inr ⟨τ, e, by rw [qs (iu h1 ht).symm]; exact ht, hl⟩
theorem Va (hr : U.box r = some (rd X i)) (kind : Int) (h : ∀ k af, Mk U af r k kind [] 0 0 (bM X.L X.E i) [] -> eg r (rd X i) U af -> R (.ret (.box k 0)) af) : ad K 99 [.box r 0, .int .u8 kind] U R := by
 refine Sl ?_
 refine Gt hr ?_
 refine gz [.int .u8 kind, .str [], .int .i64 0, .int .i64 0, .int .i64 (bM X.L X.E i), .int .i64 0] rfl ?_
 refine gz (kT kind [] 0 0 (bM X.L X.E i) .ak) rfl ?_
 rw [jR rfl]
 intro b hb
 exact al.mk (h b _ ⟨⟨_, aW, .inl ⟨rfl, rfl, rfl⟩, (fun _ _ _ e => by cases e), fun _ => rfl⟩, hb.1, (hb.da hr).symm⟩ (.pK hr ((dr.refl U).new hb)))
theorem Jk {L : List AV} {mm : Nat} {c : kh} {l2 : List AV} (M : Mk ay U r k kind text n m at_ ks) (A : eg r L ay U) (hm : 0 < mm) (hl : l2.length = mm) (hb : ks.length + mm <= 4294967296)
 (h : ∀ af, Mk ay af r k kind text n m at_ (ks ++ l2) -> eg r L ay af -> al R (.box k 0) af) : ad K 103 [.box k 0, .vec mm c l2] U R := by
 refine Nb ?_
 obtain ⟨kv, h1, h2, h3, h4⟩ := M.box
 simp only [Na, bu, aj, aR, eG h1, kT, List.drop, bq, bW]
 refine uc h2 rfl (by simp [hl]) hm hb (fun e => h4 (tk.1 e)) fun bP v' g1 e1 n1 => ?_
 have k1 : bP.box k = some (kT kind text n m at_ kv) := by
  cases e : U.live k with
  | none => exact absurd e (dJ h1)
  | some x =>
    have := e1 k x (fun n' l' hv => by
     rcases h2 with ⟨_, _, h2⟩ | ⟨τ, h2, ht, _⟩
     · rw [h2] at hv; cases hv
     · rw [h2] at hv; cases hv; exact iu h1 ht rfl) e
    rw [fh (this.trans e.symm)]; exact h1
 have A1 : eg r L ay bP := by
  have key : ∀ b x, ay.live b = some x -> U.live b = some x -> bP.live b = some x := fun b x hx hy => e1 b x (fun n' l' hv => by rw [h3 _ _ _ hv] at hx; cases hx) hy
  refine ⟨?_, fun b x Fw hx => key b x hx (A.ex b x Fw hx)⟩
  cases e : U.live r with
  | none => exact absurd e (dJ A.box)
  | some x =>
    have := e1 r x (fun n' l' hv => by
     rcases h2 with ⟨_, _, h2⟩ | ⟨τ, h2, ht, _⟩
     · rw [h2] at hv; cases hv
     · rw [h2] at hv; cases hv; exact iu A.box ht rfl) e
    rw [fh (this.trans e.symm)]; exact A.box
 rw [cT k1]
 have cH : v' ≠ .ak := by
  rcases g1 with ⟨h0, _, _⟩ | ⟨τ, e, _⟩
  · omega
  · rw [e]; simp
 have cN : v'.cN = true /\ aC v' = [v'] := by
  rcases g1 with ⟨h0, _, _⟩ | ⟨τ, e, _⟩
  · omega
  · rw [e]; exact ⟨rfl, rfl⟩
 refine ⟨⟨cN.1, by rw [cN.2]; rfl, by simp [kT]⟩, (h _ ⟨⟨v', ?_, ?_, fun n' sb l' hv => ?_, fun e => ?_⟩, M.new, M.ne⟩ ⟨by rw [bK M.ne.symm]; exact A1.box, A1.ex.set (.inl M.new)⟩)⟩
 · rw [bf, cN.2]; rfl
 · rw [eQ, hl]
   rcases g1 with h0 | ⟨τ, e, ht, hl⟩
   · exact .inl h0
   · exact .inr ⟨τ, e, by rw [qs (iu k1 ht).symm]; exact ht, hl⟩
 · rcases n1 n' sb l' hv with hx | ⟨n2, l2', hx⟩
   · cases e : ay.live sb with
     | none => rfl
     | some x =>
       by_cases hrt : sb = r
       · subst hrt; exact absurd hx (dJ A.box)
       · have := A.ex sb x hrt e; rw [hx] at this; cases this
   · exact h3 _ _ _ hx
 · have : l2 = [] := (List.append_eq_nil_iff.1 e).2
   subst this; simp at hl; omega
theorem VA {L : List AV} {mm : Nat} {c : kh} {l2 : List AV} (M : Mk ay U r k kind text n m at_ ks) (A : eg r L ay U) (hm : 0 < mm) (hl : l2.length = mm) (hb : ks.length + mm <= 4294967296)
 (h : ∀ af, Mk ay af r k kind text n m at_ (ks ++ l2) -> eg r L ay af -> R (.ret (.box k 0)) af) : ad K 103 [.box k 0, .vec mm c l2] U R := Jk M A hm hl hb fun af M A => al.mk (h af M A)
theorem Mk.done {l : List AV} {ns : List Nd} (M : Mk ay U r k kind text n m at_ ks) (hk : dI true ks ns) (A : eg r l ay U) (h : ∀ a af, dI false [a] (node kind text n m at_ ns) -> eg r l ay af -> R (.ret a) af) : al R (.box k 0) U := by
 obtain ⟨kv, h1, h2, h3, h4⟩ := M.box
 refine ⟨_, _, lN.freeze h1, h _ _ (.mk hk ?_) ⟨by rw [oe M.ne.symm]; exact A.box, A.ex.del (.inl M.new)⟩⟩
 rcases h2 with ⟨e1, e2, e3⟩ | ⟨τ, e, _, _⟩
 · exact .inl ⟨e2, e3⟩
 · exact .inr ⟨_, e⟩
end
end
end Go.Rip
namespace Go.Rip
open Go.Proofs Go.RowKit
structure Out (X : Rx) (r : Nat) (ay : St) (R : cS -> St -> Prop) (p : PR (List Nd)) : Prop where
 ok : ∀ ns j, p = .ok ns j -> j <= X.L.length -> ∀ a af, dI false [a] ns -> eg r (rd X j) ay af -> R (.ret a) af
 bad : ∀ j, p = .bad j -> ∀ af, eg r (rd X j) ay af -> R (.panic (H7 X j)) af
def Ct (X : Rx) (f : FuncId) (i : Nat) (p : PR (List Nd)) : Prop := ∀ (r : Nat) (U : St) (R : cS -> St -> Prop), U.box r = some (rd X i) -> Out X r U R p -> ad K f [.box r 0] U R
structure Sk (X : Rx) (ay : St) (r k i : Nat) (kind : Int) (text : aZ) (n m at_ : Int) (l : List Nd) (U : St) : Prop where
 A : eg r (rd X i) ay U
 hi : i <= X.L.length
 M : ∃ ks, Mk ay U r k kind text n m at_ ks /\ dI true ks l /\ ks.length <= i
section
variable {X : Rx} {ay U : St} {r k i : Nat} {kind : Int} {text : aZ} {n m at_ : Int} {l : List Nd} {R : cS -> St -> Prop} {K' : AV -> St -> Prop} {Kp : AV -> St -> Prop} {w : aZ} {f : FuncId}
theorem Sk.fB (S : Sk X ay r k i kind text n m at_ l U) {af : St} {j : Nat} (A : eg r (rd X j) U af) (hj : j <= X.L.length) (dt : i <= j) : Sk X ay r k j kind text n m at_ l af := by
 obtain ⟨ks, h1, h2, h3⟩ := S.M
 exact ⟨S.A.trans A, hj, ks, h1.fB A S.A.box, h2, by omega⟩
theorem Out.fB {af : St} {p : PR (List Nd)} {L : List AV} (O : Out X r U R p) (A : eg r L U af) : Out X r af R p :=
 ⟨fun ns j h hj a bI k A2 => O.ok ns j h hj a bI k (A.trans A2), fun j h bI A2 => O.bad j h bI (A.trans A2)⟩
theorem fP (hr : U.box r = some (rd X i)) (hi : i <= X.L.length) {kind : Int} (h : ∀ k af, Sk X U r k i kind [] 0 0 (bM X.L X.E i) [] af -> K' (.box k 0) af) : ad K 99 [.box r 0, .int .u8 kind] U (ai K' Kp) :=
 Va hr kind fun k af M A => h k af ⟨A, hi, [], M, .nil, by simp⟩
theorem dh {q : Unit -> Nat -> PR (List Nd)} (S : Sk X ay r k i kind text n m at_ l U) (O : Out X r ay R ((bm X.L w i).bind q)) (h : ∀ af, Sk X ay r k (i + 1) kind text n m at_ l af -> Out X r ay R (q () (i + 1)) -> K' (.aU []) af) : ad K 102 [.box r 0, .str w] U (ai K' (aa R)) :=
 CT S.A.box S.hi w (fun e hl af A => h af (S.fB A hl (by omega)) (by rw [e] at O; exact O)) fun e af A => O.bad _ (by rw [e]; rfl) _ (S.A.trans A)
theorem mf {q : aZ -> Nat -> PR (List Nd)} (S : Sk X ay r k i kind text n m at_ l U) (O : Out X r ay R ((dM X.L i).bind q)) (h : ∀ x af, Sk X ay r k (i + 1) kind text n m at_ l af -> Out X r ay R (q x (i + 1)) -> K' (.str x) af) : ad K 101 [.box r 0] U (ai K' (aa R)) :=
 UX S.A.box S.hi (fun x e hl af A => h x af (S.fB A hl (by omega)) (by rw [e] at O; exact O)) fun e af A => O.bad _ (by rw [e]; rfl) _ (S.A.trans A)
theorem nX {q : Int -> Nat -> PR (List Nd)} (S : Sk X ay r k i kind text n m at_ l U) (O : Out X r ay R ((fQ X.L i).bind q)) (h : ∀ x af, Sk X ay r k (i + 1) kind text n m at_ l af -> Out X r ay R (q x (i + 1)) -> K' (.int .i64 x) af) : ad K 168 [.box r 0] U (ai K' (aa R)) :=
 MJ S.A.box S.hi (fun x e hl af A => h x af (S.fB A hl (by omega)) (by rw [e] at O; exact O)) fun e af A => O.bad _ (by rw [e]; rfl) _ (S.A.trans A)
theorem qq (S : Sk X ay r k i kind text n m at_ l U) (h1 : bl X.L i w = true -> ∀ af, Sk X ay r k (i + 1) kind text n m at_ l af -> K' (.bool true) af) (h2 : bl X.L i w = false -> ∀ af, Sk X ay r k i kind text n m at_ l af -> K' (.bool false) af) : ad K 100 [.box r 0, .str w] U (ai K' Kp) :=
 Gb S.A.box S.hi w (fun e af A => h1 e af (S.fB A (cu e) (by omega))) fun e af A => h2 e af (S.fB (.pK S.A.box A) S.hi (by omega))
theorem Qb (S : Sk X ay r k i kind text n m at_ l U) (h : ∀ b af, bl X.L i w = b -> Sk X ay r k i kind text n m at_ l af -> K' (.bool b) af) :
 (aA (some (9, 1)) (some [AV.str []]) 1 false [(0, .str w)]).wp K U (fun v U => ad K 105 [.box r 0, v] U (ai K' Kp)) Kp := by
 rw [dE]
 refine ⟨by omega, ?_⟩
 rw [c6 (o := 0) (s := 1) rfl]
 refine ⟨⟨rfl, rfl, by simp [bB]⟩, ?_⟩
 rw [er]
 refine ⟨rfl, ?_⟩
 refine J3 (l := [w]) S.A.box S.hi (by simp) fun bP e1 => ?_
 exact h _ _ (by rw [zb]) (S.fB (.pK S.A.box e1) S.hi (by omega))
theorem mg {x : aZ} (S : Sk X ay r k i kind text n m at_ l U) (h : ∀ af, Sk X ay r k i kind x n m at_ l af -> K' (.aU []) af) : (aD (some (false, 1)) (.box k 1) (.str x) U).wp K U K' Kp := by
 obtain ⟨ks, h1, h2, h3⟩ := S.M
 exact h1.yH (fun kv => ⟨rfl, rfl, by simp [kT], rfl⟩) S.A fun af M A => h af ⟨A, S.hi, ks, M, h2, h3⟩
theorem zh {x : Int} (S : Sk X ay r k i kind text n m at_ l U) (h : ∀ af, Sk X ay r k i x text n m at_ l af -> K' (.aU []) af) : (aD (some (false, 1)) (.box k 0) (.int .u8 x) U).wp K U K' Kp := by
 obtain ⟨ks, h1, h2, h3⟩ := S.M
 exact h1.yH (fun kv => ⟨rfl, rfl, by simp [kT], rfl⟩) S.A fun af M A => h af ⟨A, S.hi, ks, M, h2, h3⟩
theorem yG {x : Int} (S : Sk X ay r k i kind text n m at_ l U) (h : ∀ af, Sk X ay r k i kind text x m at_ l af -> K' (.aU []) af) : (aD (some (false, 1)) (.box k 2) (.int .i64 x) U).wp K U K' Kp := by
 obtain ⟨ks, h1, h2, h3⟩ := S.M
 exact h1.yH (fun kv => ⟨rfl, rfl, by simp [kT], rfl⟩) S.A fun af M A => h af ⟨A, S.hi, ks, M, h2, h3⟩
theorem acE {x : Int} (S : Sk X ay r k i kind text n m at_ l U) (h : ∀ af, Sk X ay r k i kind text n x at_ l af -> K' (.aU []) af) : (aD (some (false, 1)) (.box k 3) (.int .i64 x) U).wp K U K' Kp := by
 obtain ⟨ks, h1, h2, h3⟩ := S.M
 exact h1.yH (fun kv => ⟨rfl, rfl, by simp [kT], rfl⟩) S.A fun af M A => h af ⟨A, S.hi, ks, M, h2, h3⟩
theorem GJ {a : AV} {ns : List Nd} {j : Nat} (S : Sk X ay r k j kind text n m at_ l U) (hj : ∀ ks, Mk ay U r k kind text n m at_ ks -> dI true ks l -> ks.length <= j -> ∃ ks', Mk ay U r k kind text n m at_ ks' /\ dI true ks' l /\ ks'.length + 1 <= j) (hk : dI false [a] ns) (h : ∀ af, Sk X ay r k j kind text n m at_ (l ++ ns) af -> K' (.box k 0) af) :
 (aA (some (87, 1)) (some [AV.bj]) 1 false [(0, a)]).wp K U (fun v U => ad K 103 [.box k 0, v] U (ai K' (aa R))) (aa R) := by
 have ha : a.cN = true /\ aC a = [a] := by
  generalize hb : false = b at hk
  generalize hl : [a] = la at hk
  cases hk with
  | mk _ _ => cases hl; exact ⟨rfl, rfl⟩
  | nil => cases hl
  | cons _ _ => cases hb
 rw [dE]
 refine ⟨by omega, ?_⟩
 rw [c6 (o := 0) (s := 1) rfl]
 refine ⟨⟨ha.1, by rw [ha.2]; rfl, by simp [bB]⟩, ?_⟩
 rw [er]
 rw [ha.2]
 refine ⟨rfl, ?_⟩
 obtain ⟨ks0, g1, g2, g3⟩ := S.M
 obtain ⟨ks, h1, h2, h3⟩ := hj ks0 g1 g2 g3
 have := X.small
 have hi := S.hi
 refine VA (l2 := [a]) h1 S.A (by omega) rfl (by omega) fun af M A => ?_
 exact h af ⟨A, S.hi, _, M, h2.snoc hk, by simp; omega⟩
theorem gR {p : PR (List Nd)} {q : List Nd -> Nat -> PR (List Nd)} (S : Sk X ay r k i kind text n m at_ l U) (C : Ct X f i p) (hp : Gd X.L.length (i + 1) i p) (O : Out X r ay R (p.bind q))
 (h : ∀ ns j af, j <= X.L.length -> i < j -> Sk X ay r k j kind text n m at_ (l ++ ns) af -> Out X r ay R (q ns j) -> K' (.box k 0) af) :
 ad K f [.box r 0] U (ai (fun v U => (aA (some (87, 1)) (some [AV.bj]) 1 false [(0, v)]).wp K U (fun v U => ad K 103 [.box k 0, v] U (ai K' (aa R))) (aa R)) (aa R)) := by
 refine C r U _ S.A.box ⟨fun ns j e hj a af hk A => ?_, fun j e af A => O.bad j (by rw [e]; rfl) af (S.A.trans A)⟩
 rw [e] at hp O
 have dt : i < j := hp.1
 have S1 := S.fB A hj (by omega)
 refine GJ S1 (fun ks _ _ _ => ?_) hk fun bI S2 => h ns j bI hj dt S2 O
 obtain ⟨ks, h1, h2, h3⟩ := S.M
 exact ⟨ks, h1.fB A S.A.box, h2, by omega⟩
theorem dW (S : Sk X ay r k i kind text n m at_ l U) (O : Out X r ay R (.ok (node kind text n m at_ l) i)) : al R (.box k 0) U := by
 obtain ⟨ks, h1, h2, h3⟩ := S.M
 exact h1.done h2 S.A fun a af hk A => O.ok _ _ rfl S.hi a af hk A
theorem BU : aa (ai K' Kp) = Kp := rfl
theorem EK {iK : FuncId} (he : hU K.P iK = true) {c : List AV} : (lz K.P (.func (.func iK) [.box r 0] []) []).wp K U K' Kp = ad K iK [.box r 0] U (ai K' Kp) := by
 simp [lz, he]
theorem CR {one : Nat -> PR (List Nd)} {iK : FuncId} (he : hU K.P iK = true) (C : ∀ i, i <= X.L.length -> Ct X iK i (one i)) (hg : ∀ i, i <= X.L.length -> Gd X.L.length (i + 1) i (one i))
 {fu : Nat} (hf : X.L.length - i <= fu) (h0 : 0 < fu) {q : List Nd -> Nat -> PR (List Nd)} (S : Sk X ay r k i kind text n m at_ l U) (O : Out X r ay R ((jr X.L one fu i).bind q))
 (h : ∀ ns j af, j <= X.L.length -> i < j -> Sk X ay r k j kind text n m at_ (l ++ ns) af -> Out X r ay R (q ns j) -> K' (.aU []) af) : ad K 106 [.box r 0, .box k 0, .func (.func iK) [.box r 0] []] U (ai K' (aa R)) := by
 refine Ea ?_
 unfold GG
 rw [EK he (c := [])]
 have e : (jr X.L one fu i).bind q = (one i).bind fun a j => (js X.L one fu a j).bind q := by
  unfold jr; cases one i <;> rfl
 rw [e] at O
 simp only [BU]
 refine gR S (C i S.hi) (hg i S.hi) O fun ns j bP hj dt S1 O1 => ?_
 refine ⟨fun mm v0 v1 v2 af => ∃ acc j f', mm = X.L.length - j /\ v0 = .box r 0 /\ v1 = .box k 0 /\ v2 = .func (.func iK) [.box r 0] [] /\ j <= X.L.length /\ i < j /\ X.L.length - j < f' /\ Sk X ay r k j kind text n m at_ (l ++ acc) af /\ Out X r ay R ((js X.L one f' acc j).bind q),
  ⟨_, ns, j, fu, rfl, rfl, rfl, rfl, hj, dt, by omega, S1, O1⟩, ?_⟩
 rintro mm v0 v1 v2 bI ⟨acc, j2, f', rfl, rfl, rfl, rfl, mK, vS, kJ, S2, O2⟩
 cases f' with
 | zero => omega
 | succ f' =>
   unfold js at O2
   refine qq S2 (fun hw bQ S3 => ?_) (fun hw bQ S3 => ?_)
   · simp only [aK]
     rw [if_pos hw] at O2
     have aL := cu hw
     rw [EK he (c := [])]
     have e2 : ((one (j2 + 1)).bind fun b j => js X.L one f' (acc ++ b) j).bind q = (one (j2 + 1)).bind fun b j => (js X.L one f' (acc ++ b) j).bind q := by
      cases one (j2 + 1) <;> rfl
     rw [e2] at O2
     refine gR S3 (C _ aL) (hg _ aL) O2 fun qg j3 cz Dx abR S4 O4 => ?_
     refine ⟨_, ?_, acc ++ qg, j3, f', rfl, rfl, rfl, rfl, Dx, by omega, by omega, by rw [<- qT]; exact S4, O4⟩
     omega
   · simp only [aE]
     rw [if_neg (by rw [hw]; simp)] at O2
     exact al.mk (h acc j2 bQ mK vS S3 O2)
end
end Go.Rip
