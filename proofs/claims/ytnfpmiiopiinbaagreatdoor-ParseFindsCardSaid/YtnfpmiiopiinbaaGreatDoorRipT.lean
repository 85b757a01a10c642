/- Lemmas for the proof: no conditions. -/
import Derived.Test.YtnfpmiiopiinbaaGreatDoorRipZz
import Derived.Test.YtnfpmiiopiinbaaGreatDoorRipS
import Derived.Test.YtnfpmiiopiinbaaGreatDoorRipI
set_option linter.unusedVariables false
set_option linter.unusedSimpArgs false
set_option linter.loopingSimpArgs false
namespace Go.Rip
open Go.Proofs Go.RowKit
def Sp {α : Type} (V : PR α) (bad : Bool) (i : Nat) (W : PR α) : Prop := if bad = true then V = .bad i else V = W
structure Own (r : Nat) (aF U : St) (nb : List (Nat × List AV)) : Prop where
 own : ∀ p ∈ nb, p.1 ≠ r /\ U.box p.1 = some p.2 /\ aF.live p.1 = none
 FZ : (nb.map Prod.fst).Nodup
structure S2 (X : Rx) (r : Nat) (aF : St) (V : PR (List Nd)) (bad : Bool) (i : Nat) (W : PR (List Nd)) (nb : List (Nat × List AV)) (U : St) : Prop where
 A : eQ r (rr X i bad) aF U
 hi : i <= X.L.length
 sp : Sp V bad i W
 own : Own r aF U nb
structure M8 (X : Rx) (r : Nat) (aF : St) (R : cB -> St -> Prop) (V : PR (List Nd)) (i0 c : Nat) : Prop where
 ok : ∀ ns j, V = .ok ns j -> j <= X.L.length -> ∀ b ae, aF.live b = none -> ae.box b = some (cw ns) -> eQ r (rr X j false) aF ae -> R (.ret (.ms b 0 ns.length 6 43)) ae
 bad : ∀ ns j, V = .bad j -> i0 <= j -> j <= X.L.length -> ns.length <= 8 * (j - i0) + c -> ∀ b ae, aF.live b = none -> ae.box b = some (cw ns) -> eQ r (rr X j true) aF ae -> R (.ret (.ms b 0 ns.length 6 43)) ae
section
variable {r : Nat} {aF U ae : St} {nb : List (Nat × List AV)} {b : Nat} {l : List AV}
theorem Own.gj (h : Own r aF U nb) (e : hX r U ae) : Own r aF ae nb :=
 ⟨fun p hp => ⟨(h.own p hp).1, e.bo (h.own p hp).1 (h.own p hp).2.1, (h.own p hp).2.2⟩, h.FZ⟩
theorem Own.cons (h : Own r aF U nb) (e : hX r U ae) (hr : b ≠ r) (h0 : aF.live b = none) (hn : U.live b = none) (hb : ae.box b = some l) : Own r aF ae ((b, l) :: nb) := by
 refine ⟨fun p hp => ?_, ?_⟩
 · rcases ep.1 hp with rfl | hp
   · exact ⟨hr, hb, h0⟩
   · exact (h.gj e).own p hp
 · rw [dy, List.nodup_cons]
   refine ⟨fun hm => ?_, h.FZ⟩
   obtain ⟨p, hp, rfl⟩ := List.mem_map.1 hm
   exact cK (h.own p hp).2.1 hn
theorem Own.ne {xl xm : List (Nat × List AV)} (h : Own r aF U (xl ++ (b, l) :: xm)) {p : Nat × List AV} (hp : p ∈ xl \/ p ∈ xm) : p.1 ≠ b := by
 have := h.FZ
 rw [List.map_append, dy, List.nodup_append] at this
 obtain ⟨h1, h2, h3⟩ := this
 rw [List.nodup_cons] at h2
 intro e
 rcases hp with hp | hp
 · exact h3 _ (List.mem_map_of_mem hp) _ (List.mem_cons_self ..) e
 · have hh := List.mem_map_of_mem (f := Prod.fst) hp
   rw [e] at hh
   exact h2.1 hh
theorem Own.jD {xl xm : List (Nat × List AV)} {l' : List AV} (h : Own r aF U (xl ++ (b, l) :: xm)) (hb : ae.box b = some l') (he : ∀ b', b' ≠ b -> ae.live b' = U.live b') : Own r aF ae (xl ++ (b, l') :: xm) := by
 have g := h.own (b, l) (by simp)
 refine ⟨fun p hp => ?_, ?_⟩
 · rw [fC, ep] at hp
   have old : p ∈ xl \/ p ∈ xm -> p.1 ≠ r /\ ae.box p.1 = some p.2 /\ aF.live p.1 = none := fun hq => by
    have g2 := h.own p (by rw [fC, ep]; rcases hq with hq | hq; exact .inl hq; exact .inr (.inr hq))
    exact ⟨g2.1, by rw [gC (he _ (h.ne hq))]; exact g2.2.1, g2.2.2⟩
   rcases hp with hp | rfl | hp
   · exact old (.inl hp)
   · exact ⟨g.1, hb, g.2.2⟩
   · exact old (.inr hp)
 · have := h.FZ; simpa using this
theorem Own.drop {xl xm : List (Nat × List AV)} (h : Own r aF U (xl ++ (b, l) :: xm)) : Own r aF U (xl ++ xm) :=
 ⟨fun p hp => h.own p (by rw [fC] at hp ⊢; rcases hp with hp | hp; exact .inl hp; exact .inr (List.mem_cons_of_mem _ hp)), by
   have := h.FZ
   rw [List.map_append, dy] at this
   rw [List.map_append]
   exact this.sublist (List.Sublist.append (List.Sublist.refl _) (List.sublist_cons_self ..))⟩
end
section
variable {X : Rx} {r i : Nat} {bad : Bool} {aF U : St} {V W W' : PR (List Nd)} {nb : List (Nat × List AV)} {R : cB -> St -> Prop} {K' : AV -> St -> Prop} {Kp : AV -> St -> Prop} {w : bf}
theorem S2.bd (S : S2 X r aF V true i W nb U) : V = .bad i := by have := S.sp; simpa [Sp] using this
theorem S2.step {ae : St} {j : Nat} {Nf : Bool} (S : S2 X r aF V bad i W nb U) (A : eQ r (rr X j Nf) U ae) (hj : j <= X.L.length) (h : Sp V Nf j W') : S2 X r aF V Nf j W' nb ae :=
 ⟨S.A.trans A, hj, h, S.own.gj A.ex⟩
theorem S2.o9 {ae : St} (S : S2 X r aF V bad i W nb U) (e : cJ U ae) : S2 X r aF V bad i W nb ae :=
 S.step (.pF S.A.box e) S.hi S.sp
end
section
variable {X : Rx} {r i : Nat} {bad : Bool} {aF U : St} {V W W' : PR (List Nd)} {nb : List (Nat × List AV)} {R : cB -> St -> Prop} {K' : AV -> St -> Prop} {Kp : AV -> St -> Prop} {k : AV -> Prop} {w : bf}
theorem S2.same {ae : St} {b : Nat} {l : List AV} (S : S2 X r aF V bad i W nb U) (h : (b, l) ∈ nb) (e : hX r U ae) : c8 [b] U ae := by
 intro c hc
 have hc : c = b := by simpa using hc
 subst hc
 have g := S.own.own _ h
 cases hx : U.live c with
 | none => exact absurd hx (cK g.2.1)
 | some x => exact e c x g.1 hx
end
end Go.Rip
namespace Go.Rip
open Go.Proofs Go.RowKit
def bx (kind : Int) (text : bf) (n m at_ : Int) : List AV := [.int .u8 kind, .str text, .int .i64 n, .int .i64 m, .int .i64 at_, .int .i64 0]
section
variable {X : Rx} {r i : Nat} {bad : Bool} {aF U : St} {V W W' : PR (List Nd)} {nb xl xm : List (Nat × List AV)} {R : cB -> St -> Prop} {K' : AV -> St -> Prop} {Q : St -> Prop} {Kp : AV -> St -> Prop} {k : AV -> Prop} {w : bf} {kind n m at_ : Int} {text : bf} {bk : Nat}
theorem M8.tail {i0 c : Nat} (O : M8 X r aF R V i0 c) : M8 X r aF (au (fun v U => aj R v U) (aa R)) V i0 c :=
 ⟨fun ns j h hj b ae h1 h2 A => aj.mk (O.ok ns j h hj b ae h1 h2 A), fun ns j h h0 hj hn b ae h1 h2 A => aj.mk (O.bad ns j h h0 hj hn b ae h1 h2 A)⟩
theorem S2.new {b : Nat} {l : List AV} (S : S2 X r aF V bad i W nb U) (hf : U.cQ b) : S2 X r aF V bad i W ((b, l) :: nb) (U.new b (.box l)) := by
 have bQ : b ≠ r := fun e => cK S.A.box (e ▸ hf.1)
 exact ⟨S.A.trans (.pF S.A.box (bm hf)), S.hi, S.sp, S.own.cons (bm hf).Io bQ (S.A.ex.fresh bQ hf.1) hf.1 aL⟩
end
section
variable {X : Rx} {i : Nat}
end
end Go.Rip
namespace Go.Rip
open Go.Proofs Go.RowKit
section
variable {X : Rx} {r i : Nat} {bad : Bool} {aF U : St} {V W W' : PR (List Nd)} {nb ZD : List (Nat × List AV)} {R : cB -> St -> Prop} {K' : AV -> St -> Prop} {Kp : AV -> St -> Prop} {w : bf}
theorem S2.sub (S : S2 X r aF V bad i W nb U) (h : ZD.Sublist nb) : S2 X r aF V bad i W ZD U :=
 ⟨S.A, S.hi, S.sp, ⟨fun p hp => S.own.own p (h.subset hp), S.own.FZ.sublist (h.map _)⟩⟩
theorem Ir {α : Type} {l : List α} {P : α -> Bool} {k : Nat} {x : α} (h : ∀ j, j < k -> ∀ y, l[j]? = some y -> P y = false) (hk : l[k]? = some x) (hx : P x = true) : l.find? P = some x := by
 induction l generalizing k with
 | nil => simp at hk
 | cons a l ih =>
   cases k with
   | zero => simp at hk; subst hk; simp [hx]
   | succ k =>
     have := h 0 (by omega) a (by simp)
     rw [List.find?_cons, this]
     exact ih (k := k) (fun j hj y hy => h (j + 1) (by omega) y (by simpa using hy)) (by simpa using hk)
theorem Nw {α : Type} {l : List α} {P : α -> Bool} (h : ∀ j, j < l.length -> ∀ y, l[j]? = some y -> P y = false) : l.find? P = none := by
 rw [List.find?_eq_none]
 intro x hx
 obtain ⟨j, hj, rfl⟩ := List.mem_iff_getElem.1 hx
 simp [h j hj l[j] (by simp [hj])]
end
section
variable {X : Rx} {i : Nat}
end
end Go.Rip
