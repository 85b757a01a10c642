/- Lemmas for the proof: no conditions. -/
import Derived.Test.YtnfpmiiopiinbaaGreatDoorRipZz
import Derived.Test.YtnfpmiiopiinbaaGreatDoorRipS
import Derived.Test.YtnfpmiiopiinbaaGreatDoorRipI
set_option linter.unusedVariables false
set_option linter.unusedSimpArgs false
set_option linter.loopingSimpArgs false
namespace Go.Rip
open Go.Proofs Go.RowKit
def Sp {α : Type} (V : PR α) (bad : Bool) (i : Nat) (W : PR α) : Prop := if bad = true then V = .bad i else V = W
structure Own (r : Nat) (aE U : St) (nb : List (Nat × List AV)) : Prop where
 own : ∀ p ∈ nb, p.1 ≠ r /\ U.box p.1 = some p.2 /\ aE.live p.1 = none
 FM : (nb.map Prod.fst).Nodup
structure S2 (X : Rx) (r : Nat) (aE : St) (V : PR (List Nd)) (bad : Bool) (i : Nat) (W : PR (List Nd)) (nb : List (Nat × List AV)) (U : St) : Prop where
 A : eX r (rr X i bad) aE U
 hi : i <= X.L.length
 sp : Sp V bad i W
 own : Own r aE U nb
structure MU (X : Rx) (r : Nat) (aE : St) (R : cB -> St -> Prop) (V : PR (List Nd)) (i0 c : Nat) : Prop where
 ok : ∀ ns j, V = .ok ns j -> j <= X.L.length -> ∀ b ae, aE.live b = none -> ae.box b = some (cF ns) -> eX r (rr X j false) aE ae -> R (.ret (.ms b 0 ns.length 6 43)) ae
 bad : ∀ ns j, V = .bad j -> i0 <= j -> j <= X.L.length -> ns.length <= 8 * (j - i0) + c -> ∀ b ae, aE.live b = none -> ae.box b = some (cF ns) -> eX r (rr X j true) aE ae -> R (.ret (.ms b 0 ns.length 6 43)) ae
section
variable {r : Nat} {aE U ae : St} {nb : List (Nat × List AV)} {b : Nat} {l : List AV}
theorem Own.gm (h : Own r aE U nb) (e : gU r U ae) : Own r aE ae nb :=
 ⟨fun p hp => ⟨(h.own p hp).1, e.bL (h.own p hp).1 (h.own p hp).2.1, (h.own p hp).2.2⟩, h.FM⟩
theorem Own.cons (h : Own r aE U nb) (e : gU r U ae) (hr : b ≠ r) (h0 : aE.live b = none) (hn : U.live b = none) (hb : ae.box b = some l) : Own r aE ae ((b, l) :: nb) := by
 refine ⟨fun p hp => ?_, ?_⟩
 · rcases eA.1 hp with rfl | hp
   · exact ⟨hr, hb, h0⟩
   · exact (h.gm e).own p hp
 · rw [dx, List.nodup_cons]
   refine ⟨fun hm => ?_, h.FM⟩
   obtain ⟨p, hp, rfl⟩ := List.mem_map.1 hm
   exact dR (h.own p hp).2.1 hn
theorem Own.ne {xm xn : List (Nat × List AV)} (h : Own r aE U (xm ++ (b, l) :: xn)) {p : Nat × List AV} (hp : p ∈ xm \/ p ∈ xn) : p.1 ≠ b := by
 have := h.FM
 rw [List.map_append, dx, List.nodup_append] at this
 obtain ⟨h1, h2, h3⟩ := this
 rw [List.nodup_cons] at h2
 intro e
 rcases hp with hp | hp
 · exact h3 _ (List.mem_map_of_mem hp) _ (List.mem_cons_self ..) e
 · have hh := List.mem_map_of_mem (f := Prod.fst) hp
   rw [e] at hh
   exact h2.1 hh
theorem Own.jD {xm xn : List (Nat × List AV)} {l' : List AV} (h : Own r aE U (xm ++ (b, l) :: xn)) (hb : ae.box b = some l') (he : ∀ b', b' ≠ b -> ae.live b' = U.live b') : Own r aE ae (xm ++ (b, l') :: xn) := by
 have g := h.own (b, l) (by simp)
 refine ⟨fun p hp => ?_, ?_⟩
 · rw [fH, eA] at hp
   have old : p ∈ xm \/ p ∈ xn -> p.1 ≠ r /\ ae.box p.1 = some p.2 /\ aE.live p.1 = none := fun hq => by
    have g2 := h.own p (by rw [fH, eA]; rcases hq with hq | hq; exact .inl hq; exact .inr (.inr hq))
    exact ⟨g2.1, by rw [fW (he _ (h.ne hq))]; exact g2.2.1, g2.2.2⟩
   rcases hp with hp | rfl | hp
   · exact old (.inl hp)
   · exact ⟨g.1, hb, g.2.2⟩
   · exact old (.inr hp)
 · have := h.FM; simpa using this
theorem Own.drop {xm xn : List (Nat × List AV)} (h : Own r aE U (xm ++ (b, l) :: xn)) : Own r aE U (xm ++ xn) :=
 ⟨fun p hp => h.own p (by rw [fH] at hp ⊢; rcases hp with hp | hp; exact .inl hp; exact .inr (List.mem_cons_of_mem _ hp)), by
   have := h.FM
   rw [List.map_append, dx] at this
   rw [List.map_append]
   exact this.sublist (List.Sublist.append (List.Sublist.refl _) (List.sublist_cons_self ..))⟩
end
section
variable {X : Rx} {r i : Nat} {bad : Bool} {aE U : St} {V W W' : PR (List Nd)} {nb : List (Nat × List AV)} {R : cB -> St -> Prop} {K' : AV -> St -> Prop} {Kp : AV -> St -> Prop} {w : bg}
theorem S2.bd (S : S2 X r aE V true i W nb U) : V = .bad i := by have := S.sp; simpa [Sp] using this
theorem S2.step {ae : St} {j : Nat} {MZ : Bool} (S : S2 X r aE V bad i W nb U) (A : eX r (rr X j MZ) U ae) (hj : j <= X.L.length) (h : Sp V MZ j W') : S2 X r aE V MZ j W' nb ae :=
 ⟨S.A.trans A, hj, h, S.own.gm A.ex⟩
theorem S2.o0 {ae : St} (S : S2 X r aE V bad i W nb U) (e : cH U ae) : S2 X r aE V bad i W nb ae :=
 S.step (.px S.A.box e) S.hi S.sp
end
section
variable {X : Rx} {r i : Nat} {bad : Bool} {aE U : St} {V W W' : PR (List Nd)} {nb : List (Nat × List AV)} {R : cB -> St -> Prop} {K' : AV -> St -> Prop} {Kp : AV -> St -> Prop} {k : AV -> Prop} {w : bg}
theorem S2.same {ae : St} {b : Nat} {l : List AV} (S : S2 X r aE V bad i W nb U) (h : (b, l) ∈ nb) (e : gU r U ae) : cU [b] U ae := by
 intro c hc
 have hc : c = b := by simpa using hc
 subst hc
 have g := S.own.own _ h
 cases hx : U.live c with
 | none => exact absurd hx (dR g.2.1)
 | some x => exact e c x g.1 hx
end
end Go.Rip
namespace Go.Rip
open Go.Proofs Go.RowKit
def bx (kind : Int) (text : bg) (n m at_ : Int) : List AV := [.int .u8 kind, .str text, .int .i64 n, .int .i64 m, .int .i64 at_, .int .i64 0]
section
variable {X : Rx} {r i : Nat} {bad : Bool} {aE U : St} {V W W' : PR (List Nd)} {nb xm xn : List (Nat × List AV)} {R : cB -> St -> Prop} {K' : AV -> St -> Prop} {Q : St -> Prop} {Kp : AV -> St -> Prop} {k : AV -> Prop} {w : bg} {kind n m at_ : Int} {text : bg} {bk : Nat}
theorem MU.tail {i0 c : Nat} (O : MU X r aE R V i0 c) : MU X r aE (ar (fun v U => aj R v U) (aa R)) V i0 c :=
 ⟨fun ns j h hj b ae h1 h2 A => aj.mk (O.ok ns j h hj b ae h1 h2 A), fun ns j h h0 hj hn b ae h1 h2 A => aj.mk (O.bad ns j h h0 hj hn b ae h1 h2 A)⟩
theorem S2.new {b : Nat} {l : List AV} (S : S2 X r aE V bad i W nb U) (hf : U.cN b) : S2 X r aE V bad i W ((b, l) :: nb) (U.new b (.box l)) := by
 have cm : b ≠ r := fun e => dR S.A.box (e ▸ hf.1)
 exact ⟨S.A.trans (.px S.A.box (bH hf)), S.hi, S.sp, S.own.cons (bH hf).H6 cm (S.A.ex.fresh cm hf.1) hf.1 aN⟩
end
section
variable {X : Rx} {i : Nat}
end
end Go.Rip
namespace Go.Rip
open Go.Proofs Go.RowKit
section
variable {X : Rx} {r i : Nat} {bad : Bool} {aE U : St} {V W W' : PR (List Nd)} {nb ZL : List (Nat × List AV)} {R : cB -> St -> Prop} {K' : AV -> St -> Prop} {Kp : AV -> St -> Prop} {w : bg}
theorem S2.sub (S : S2 X r aE V bad i W nb U) (h : ZL.Sublist nb) : S2 X r aE V bad i W ZL U :=
 ⟨S.A, S.hi, S.sp, ⟨fun p hp => S.own.own p (h.subset hp), S.own.FM.sublist (h.map _)⟩⟩
theorem Ib {α : Type} {l : List α} {P : α -> Bool} {k : Nat} {x : α} (h : ∀ j, j < k -> ∀ y, l[j]? = some y -> P y = false) (hk : l[k]? = some x) (hx : P x = true) : l.find? P = some x := by
 induction l generalizing k with
 | nil => simp at hk
 | cons a l ih =>
   cases k with
   | zero => simp at hk; subst hk; simp [hx]
   | succ k =>
     have := h 0 (by omega) a (by simp)
     rw [List.find?_cons, this]
     exact ih (k := k) (fun j hj y hy => h (j + 1) (by omega) y (by simpa using hy)) (by simpa using hk)
theorem Nk {α : Type} {l : List α} {P : α -> Bool} (h : ∀ j, j < l.length -> ∀ y, l[j]? = some y -> P y = false) : l.find? P = none := by
 rw [List.find?_eq_none]
 intro x hx
 obtain ⟨j, hj, rfl⟩ := List.mem_iff_getElem.1 hx
 simp [h j hj l[j] (by simp [hj])]
end
section
variable {X : Rx} {i : Nat}
end
end Go.Rip
