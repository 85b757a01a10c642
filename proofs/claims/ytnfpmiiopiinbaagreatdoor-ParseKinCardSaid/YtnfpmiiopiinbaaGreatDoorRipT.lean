/- Lemmas for the proof: no conditions. -/
import Derived.Test.YtnfpmiiopiinbaaGreatDoorRipZz
import Derived.Test.YtnfpmiiopiinbaaGreatDoorRipS
import Derived.Test.YtnfpmiiopiinbaaGreatDoorRipI
set_option linter.unusedVariables false
set_option linter.unusedSimpArgs false
set_option linter.loopingSimpArgs false
namespace Go.Rip
open Go.Proofs Go.RowKit
def Sp {α : Type} (V : PR α) (bad : Bool) (i : Nat) (W : PR α) : Prop := if bad = true then V = .bad i else V = W
structure Own (r : Nat) (az U : St) (nb : List (Nat × List AV)) : Prop where
 own : ∀ p ∈ nb, p.1 ≠ r /\ U.box p.1 = some p.2 /\ az.live p.1 = none
 DF : (nb.map Prod.fst).Nodup
structure S2 (X : Rx) (r : Nat) (az : St) (V : PR (List Nd)) (bad : Bool) (i : Nat) (W : PR (List Nd)) (nb : List (Nat × List AV)) (U : St) : Prop where
 A : ef r (rr X i bad) az U
 hi : i <= X.L.length
 sp : Sp V bad i W
 own : Own r az U nb
structure JT (X : Rx) (r : Nat) (az : St) (R : cm -> St -> Prop) (V : PR (List Nd)) (i0 c : Nat) : Prop where
 ok : ∀ ns j, V = .ok ns j -> j <= X.L.length -> ∀ b ad, az.live b = none -> ad.box b = some (cR ns) -> ef r (rr X j false) az ad -> R (.ret (.ms b 0 ns.length 6 43)) ad
 bad : ∀ ns j, V = .bad j -> i0 <= j -> j <= X.L.length -> ns.length <= 8 * (j - i0) + c -> ∀ b ad, az.live b = none -> ad.box b = some (cR ns) -> ef r (rr X j true) az ad -> R (.ret (.ms b 0 ns.length 6 43)) ad
section
variable {r : Nat} {az U ad : St} {nb : List (Nat × List AV)} {b : Nat} {l : List AV}
theorem Own.fp (h : Own r az U nb) (e : gb r U ad) : Own r az ad nb :=
 ⟨fun p hp => ⟨(h.own p hp).1, e.bA (h.own p hp).1 (h.own p hp).2.1, (h.own p hp).2.2⟩, h.DF⟩
theorem Own.cons (h : Own r az U nb) (e : gb r U ad) (hr : b ≠ r) (h0 : az.live b = none) (hn : U.live b = none) (hb : ad.box b = some l) : Own r az ad ((b, l) :: nb) := by
 refine ⟨fun p hp => ?_, ?_⟩
 · rcases dD.1 hp with rfl | hp
   · exact ⟨hr, hb, h0⟩
   · exact (h.fp e).own p hp
 · rw [de, List.nodup_cons]
   refine ⟨fun hm => ?_, h.DF⟩
   obtain ⟨p, hp, rfl⟩ := List.mem_map.1 hm
   exact dy (h.own p hp).2.1 hn
theorem Own.ne {uY uZ : List (Nat × List AV)} (h : Own r az U (uY ++ (b, l) :: uZ)) {p : Nat × List AV} (hp : p ∈ uY \/ p ∈ uZ) : p.1 ≠ b := by
 have := h.DF
 rw [List.map_append, de, List.nodup_append] at this
 obtain ⟨h1, h2, h3⟩ := this
 rw [List.nodup_cons] at h2
 intro e
 rcases hp with hp | hp
 · exact h3 _ (List.mem_map_of_mem hp) _ (List.mem_cons_self ..) e
 · have hh := List.mem_map_of_mem (f := Prod.fst) hp
   rw [e] at hh
   exact h2.1 hh
theorem Own.ir {uY uZ : List (Nat × List AV)} {l' : List AV} (h : Own r az U (uY ++ (b, l) :: uZ)) (hb : ad.box b = some l') (he : ∀ b', b' ≠ b -> ad.live b' = U.live b') : Own r az ad (uY ++ (b, l') :: uZ) := by
 have g := h.own (b, l) (by simp)
 refine ⟨fun p hp => ?_, ?_⟩
 · rw [fx, dD] at hp
   have old : p ∈ uY \/ p ∈ uZ -> p.1 ≠ r /\ ad.box p.1 = some p.2 /\ az.live p.1 = none := fun hq => by
    have g2 := h.own p (by rw [fx, dD]; rcases hq with hq | hq; exact .inl hq; exact .inr (.inr hq))
    exact ⟨g2.1, by rw [eU (he _ (h.ne hq))]; exact g2.2.1, g2.2.2⟩
   rcases hp with hp | rfl | hp
   · exact old (.inl hp)
   · exact ⟨g.1, hb, g.2.2⟩
   · exact old (.inr hp)
 · have := h.DF; simpa using this
theorem Own.drop {uY uZ : List (Nat × List AV)} (h : Own r az U (uY ++ (b, l) :: uZ)) : Own r az U (uY ++ uZ) :=
 ⟨fun p hp => h.own p (by rw [fx] at hp ⊢; rcases hp with hp | hp; exact .inl hp; exact .inr (List.mem_cons_of_mem _ hp)), by
   have := h.DF
   rw [List.map_append, de] at this
   rw [List.map_append]
   exact this.sublist (List.Sublist.append (List.Sublist.refl _) (List.sublist_cons_self ..))⟩
end
section
variable {X : Rx} {r i : Nat} {bad : Bool} {az U : St} {V W W' : PR (List Nd)} {nb : List (Nat × List AV)} {R : cm -> St -> Prop} {K' : AV -> St -> Prop} {Kp : AV -> St -> Prop} {w : aW}
theorem S2.bd (S : S2 X r az V true i W nb U) : V = .bad i := by have := S.sp; simpa [Sp] using this
theorem S2.step {ad : St} {j : Nat} {JZ : Bool} (S : S2 X r az V bad i W nb U) (A : ef r (rr X j JZ) U ad) (hj : j <= X.L.length) (h : Sp V JZ j W') : S2 X r az V JZ j W' nb ad :=
 ⟨S.A.trans A, hj, h, S.own.fp A.ex⟩
theorem S2.uM {ad : St} (S : S2 X r az V bad i W nb U) (e : cF U ad) : S2 X r az V bad i W nb ad :=
 S.step (.nQ S.A.box e) S.hi S.sp
end
section
variable {X : Rx} {r i : Nat} {bad : Bool} {az U : St} {V W W' : PR (List Nd)} {nb : List (Nat × List AV)} {R : cm -> St -> Prop} {K' : AV -> St -> Prop} {Kp : AV -> St -> Prop} {k : AV -> Prop} {w : aW}
theorem S2.same {ad : St} {b : Nat} {l : List AV} (S : S2 X r az V bad i W nb U) (h : (b, l) ∈ nb) (e : gb r U ad) : cn [b] U ad := by
 intro c hc
 have hc : c = b := by simpa using hc
 subst hc
 have g := S.own.own _ h
 cases hx : U.live c with
 | none => exact absurd hx (dy g.2.1)
 | some x => exact e c x g.1 hx
end
end Go.Rip
namespace Go.Rip
open Go.Proofs Go.RowKit
def bx (kind : Int) (text : aW) (n m at_ : Int) : List AV := [.int .u8 kind, .str text, .int .i64 n, .int .i64 m, .int .i64 at_, .int .i64 0]
section
variable {X : Rx} {r i : Nat} {bad : Bool} {az U : St} {V W W' : PR (List Nd)} {nb uY uZ : List (Nat × List AV)} {R : cm -> St -> Prop} {K' : AV -> St -> Prop} {Q : St -> Prop} {Kp : AV -> St -> Prop} {k : AV -> Prop} {w : aW} {kind n m at_ : Int} {text : aW} {bk : Nat}
theorem JT.tail {i0 c : Nat} (O : JT X r az R V i0 c) : JT X r az (al (fun v U => aj R v U) (aa R)) V i0 c :=
 ⟨fun ns j h hj b ad h1 h2 A => aj.mk (O.ok ns j h hj b ad h1 h2 A), fun ns j h h0 hj hn b ad h1 h2 A => aj.mk (O.bad ns j h h0 hj hn b ad h1 h2 A)⟩
theorem S2.new {b : Nat} {l : List AV} (S : S2 X r az V bad i W nb U) (hf : U.cj b) : S2 X r az V bad i W ((b, l) :: nb) (U.new b (.box l)) := by
 have bX : b ≠ r := fun e => dy S.A.box (e ▸ hf.1)
 exact ⟨S.A.trans (.nQ S.A.box (bz hf)), S.hi, S.sp, S.own.cons (bz hf).Gi bX (S.A.ex.fresh bX hf.1) hf.1 aN⟩
end
section
variable {X : Rx} {i : Nat}
end
end Go.Rip
namespace Go.Rip
open Go.Proofs Go.RowKit
section
variable {X : Rx} {r i : Nat} {bad : Bool} {az U : St} {V W W' : PR (List Nd)} {nb Vs : List (Nat × List AV)} {R : cm -> St -> Prop} {K' : AV -> St -> Prop} {Kp : AV -> St -> Prop} {w : aW}
theorem S2.sub (S : S2 X r az V bad i W nb U) (h : Vs.Sublist nb) : S2 X r az V bad i W Vs U :=
 ⟨S.A, S.hi, S.sp, ⟨fun p hp => S.own.own p (h.subset hp), S.own.DF.sublist (h.map _)⟩⟩
end
section
variable {X : Rx} {i : Nat}
end
end Go.Rip
