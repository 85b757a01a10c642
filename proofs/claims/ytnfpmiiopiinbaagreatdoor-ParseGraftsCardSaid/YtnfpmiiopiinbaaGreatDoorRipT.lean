/- Lemmas for the proof: no conditions. -/
import Derived.Test.YtnfpmiiopiinbaaGreatDoorRipZz
import Derived.Test.YtnfpmiiopiinbaaGreatDoorRipS
import Derived.Test.YtnfpmiiopiinbaaGreatDoorRipI
set_option linter.unusedVariables false
set_option linter.unusedSimpArgs false
set_option linter.loopingSimpArgs false
namespace Go.Rip
open Go.Proofs Go.RowKit
def Sp {α : Type} (V : PR α) (bad : Bool) (i : Nat) (W : PR α) : Prop := if bad = true then V = .bad i else V = W
structure Own (r : Nat) (aG U : St) (nb : List (Nat × List AV)) : Prop where
 own : ∀ p ∈ nb, p.1 ≠ r /\ U.box p.1 = some p.2 /\ aG.live p.1 = none
 GB : (nb.map Prod.fst).Nodup
structure S2 (X : Rx) (r : Nat) (aG : St) (V : PR (List Nd)) (bad : Bool) (i : Nat) (W : PR (List Nd)) (nb : List (Nat × List AV)) (U : St) : Prop where
 A : fg r (rr X i bad) aG U
 hi : i <= X.L.length
 sp : Sp V bad i W
 own : Own r aG U nb
structure NQ (X : Rx) (r : Nat) (aG : St) (R : cD -> St -> Prop) (V : PR (List Nd)) (i0 c : Nat) : Prop where
 ok : ∀ ns j, V = .ok ns j -> j <= X.L.length -> ∀ b ae, aG.live b = none -> ae.box b = some (bC ns) -> fg r (rr X j false) aG ae -> R (.ret (.ms b 0 ns.length 6 43)) ae
 bad : ∀ ns j, V = .bad j -> i0 <= j -> j <= X.L.length -> ns.length <= 8 * (j - i0) + c -> ∀ b ae, aG.live b = none -> ae.box b = some (bC ns) -> fg r (rr X j true) aG ae -> R (.ret (.ms b 0 ns.length 6 43)) ae
section
variable {r : Nat} {aG U ae : St} {nb : List (Nat × List AV)} {b : Nat} {l : List AV}
theorem Own.gm (h : Own r aG U nb) (e : il r U ae) : Own r aG ae nb :=
 ⟨fun p hp => ⟨(h.own p hp).1, e.bj (h.own p hp).1 (h.own p hp).2.1, (h.own p hp).2.2⟩, h.GB⟩
theorem Own.cons (h : Own r aG U nb) (e : il r U ae) (hr : b ≠ r) (h0 : aG.live b = none) (hn : U.live b = none) (hb : ae.box b = some l) : Own r aG ae ((b, l) :: nb) := by
 refine ⟨fun p hp => ?_, ?_⟩
 · rcases dS.1 hp with rfl | hp
   · exact ⟨hr, hb, h0⟩
   · exact (h.gm e).own p hp
 · rw [dJ, List.nodup_cons]
   refine ⟨fun hm => ?_, h.GB⟩
   obtain ⟨p, hp, rfl⟩ := List.mem_map.1 hm
   exact de (h.own p hp).2.1 hn
theorem Own.ne {x6 x7 : List (Nat × List AV)} (h : Own r aG U (x6 ++ (b, l) :: x7)) {p : Nat × List AV} (hp : p ∈ x6 \/ p ∈ x7) : p.1 ≠ b := by
 have := h.GB
 rw [List.map_append, dJ, List.nodup_append] at this
 obtain ⟨h1, h2, h3⟩ := this
 rw [List.nodup_cons] at h2
 intro e
 rcases hp with hp | hp
 · exact h3 _ (List.mem_map_of_mem hp) _ (List.mem_cons_self ..) e
 · have hh := List.mem_map_of_mem (f := Prod.fst) hp
   rw [e] at hh
   exact h2.1 hh
theorem Own.jQ {x6 x7 : List (Nat × List AV)} {l' : List AV} (h : Own r aG U (x6 ++ (b, l) :: x7)) (hb : ae.box b = some l') (he : ∀ b', b' ≠ b -> ae.live b' = U.live b') : Own r aG ae (x6 ++ (b, l') :: x7) := by
 have g := h.own (b, l) (by simp)
 refine ⟨fun p hp => ?_, ?_⟩
 · rw [eZ, dS] at hp
   have old : p ∈ x6 \/ p ∈ x7 -> p.1 ≠ r /\ ae.box p.1 = some p.2 /\ aG.live p.1 = none := fun hq => by
    have g2 := h.own p (by rw [eZ, dS]; rcases hq with hq | hq; exact .inl hq; exact .inr (.inr hq))
    exact ⟨g2.1, by rw [gR (he _ (h.ne hq))]; exact g2.2.1, g2.2.2⟩
   rcases hp with hp | rfl | hp
   · exact old (.inl hp)
   · exact ⟨g.1, hb, g.2.2⟩
   · exact old (.inr hp)
 · have := h.GB; simpa using this
theorem Own.drop {x6 x7 : List (Nat × List AV)} (h : Own r aG U (x6 ++ (b, l) :: x7)) : Own r aG U (x6 ++ x7) :=
 ⟨fun p hp => h.own p (by rw [eZ] at hp ⊢; rcases hp with hp | hp; exact .inl hp; exact .inr (List.mem_cons_of_mem _ hp)), by
   have := h.GB
   rw [List.map_append, dJ] at this
   rw [List.map_append]
   exact this.sublist (List.Sublist.append (List.Sublist.refl _) (List.sublist_cons_self ..))⟩
end
section
variable {X : Rx} {r i : Nat} {bad : Bool} {aG U : St} {V W W' : PR (List Nd)} {nb : List (Nat × List AV)} {R : cD -> St -> Prop} {K' : AV -> St -> Prop} {Kp : AV -> St -> Prop} {w : bh}
theorem S2.bd (S : S2 X r aG V true i W nb U) : V = .bad i := by have := S.sp; simpa [Sp] using this
theorem S2.step {ae : St} {j : Nat} {NY : Bool} (S : S2 X r aG V bad i W nb U) (A : fg r (rr X j NY) U ae) (hj : j <= X.L.length) (h : Sp V NY j W') : S2 X r aG V NY j W' nb ae :=
 ⟨S.A.trans A, hj, h, S.own.gm A.ex⟩
theorem S2.pD {ae : St} (S : S2 X r aG V bad i W nb U) (e : cL U ae) : S2 X r aG V bad i W nb ae :=
 S.step (.p6 S.A.box e) S.hi S.sp
end
section
variable {X : Rx} {r i : Nat} {bad : Bool} {aG U : St} {V W W' : PR (List Nd)} {nb : List (Nat × List AV)} {R : cD -> St -> Prop} {K' : AV -> St -> Prop} {Kp : AV -> St -> Prop} {k : AV -> Prop} {w : bh}
theorem S2.same {ae : St} {b : Nat} {l : List AV} (S : S2 X r aG V bad i W nb U) (h : (b, l) ∈ nb) (e : il r U ae) : cU [b] U ae := by
 intro c hc
 have hc : c = b := by simpa using hc
 subst hc
 have g := S.own.own _ h
 cases hx : U.live c with
 | none => exact absurd hx (de g.2.1)
 | some x => exact e c x g.1 hx
end
end Go.Rip
namespace Go.Rip
open Go.Proofs Go.RowKit
def bx (kind : Int) (text : bh) (n m at_ : Int) : List AV := [.int .u8 kind, .str text, .int .i64 n, .int .i64 m, .int .i64 at_, .int .i64 0]
section
variable {X : Rx} {r i : Nat} {bad : Bool} {aG U : St} {V W W' : PR (List Nd)} {nb x6 x7 : List (Nat × List AV)} {R : cD -> St -> Prop} {K' : AV -> St -> Prop} {Q : St -> Prop} {Kp : AV -> St -> Prop} {k : AV -> Prop} {w : bh} {kind n m at_ : Int} {text : bh} {bk : Nat}
theorem NQ.tail {i0 c : Nat} (O : NQ X r aG R V i0 c) : NQ X r aG (ax (fun v U => ak R v U) (aa R)) V i0 c :=
 ⟨fun ns j h hj b ae h1 h2 A => ak.mk (O.ok ns j h hj b ae h1 h2 A), fun ns j h h0 hj hn b ae h1 h2 A => ak.mk (O.bad ns j h h0 hj hn b ae h1 h2 A)⟩
theorem S2.new {b : Nat} {l : List AV} (S : S2 X r aG V bad i W nb U) (hf : U.cY b) : S2 X r aG V bad i W ((b, l) :: nb) (U.new b (.box l)) := by
 have bW : b ≠ r := fun e => de S.A.box (e ▸ hf.1)
 exact ⟨S.A.trans (.p6 S.A.box (bE hf)), S.hi, S.sp, S.own.cons (bE hf).I6 bW (S.A.ex.fresh bW hf.1) hf.1 aN⟩
end
section
variable {X : Rx} {i : Nat}
end
end Go.Rip
namespace Go.Rip
open Go.Proofs Go.RowKit
section
variable {X : Rx} {r i : Nat} {bad : Bool} {aG U : St} {V W W' : PR (List Nd)} {nb nb' : List (Nat × List AV)} {R : cD -> St -> Prop} {K' : AV -> St -> Prop} {Kp : AV -> St -> Prop} {w : bh}
theorem S2.sub (S : S2 X r aG V bad i W nb U) (h : nb'.Sublist nb) : S2 X r aG V bad i W nb' U :=
 ⟨S.A, S.hi, S.sp, ⟨fun p hp => S.own.own p (h.subset hp), S.own.GB.sublist (h.map _)⟩⟩
theorem I9 {α : Type} {l : List α} {P : α -> Bool} {k : Nat} {x : α} (h : ∀ j, j < k -> ∀ y, l[j]? = some y -> P y = false) (hk : l[k]? = some x) (hx : P x = true) : l.find? P = some x := by
 induction l generalizing k with
 | nil => simp at hk
 | cons a l ih =>
   cases k with
   | zero => simp at hk; subst hk; simp [hx]
   | succ k =>
     have := h 0 (by omega) a (by simp)
     rw [List.find?_cons, this]
     exact ih (k := k) (fun j hj y hy => h (j + 1) (by omega) y (by simpa using hy)) (by simpa using hk)
theorem Oe {α : Type} {l : List α} {P : α -> Bool} (h : ∀ j, j < l.length -> ∀ y, l[j]? = some y -> P y = false) : l.find? P = none := by
 rw [List.find?_eq_none]
 intro x hx
 obtain ⟨j, hj, rfl⟩ := List.mem_iff_getElem.1 hx
 simp [h j hj l[j] (by simp [hj])]
end
section
variable {X : Rx} {i : Nat}
end
end Go.Rip
