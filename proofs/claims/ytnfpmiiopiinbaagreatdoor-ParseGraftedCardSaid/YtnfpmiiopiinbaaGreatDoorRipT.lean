/- Lemmas for the proof: no conditions. -/
import Derived.Test.YtnfpmiiopiinbaaGreatDoorRipZz
import Derived.Test.YtnfpmiiopiinbaaGreatDoorRipS
import Derived.Test.YtnfpmiiopiinbaaGreatDoorRipI
set_option linter.unusedVariables false
set_option linter.unusedSimpArgs false
set_option linter.loopingSimpArgs false
namespace Go.Rip
open Go.Proofs Go.RowKit
def Sp {α : Type} (V : PR α) (bad : Bool) (i : Nat) (W : PR α) : Prop := if bad = true then V = .bad i else V = W
structure Own (r : Nat) (ay U : St) (nb : List (Nat × List AV)) : Prop where
 own : ∀ p ∈ nb, p.1 ≠ r /\ U.box p.1 = some p.2 /\ ay.live p.1 = none
 EM : (nb.map Prod.fst).Nodup
structure S2 (X : Rx) (r : Nat) (ay : St) (V : PR (List Nd)) (bad : Bool) (i : Nat) (W : PR (List Nd)) (nb : List (Nat × List AV)) (U : St) : Prop where
 A : eo r (rr X i bad) ay U
 hi : i <= X.L.length
 sp : Sp V bad i W
 own : Own r ay U nb
structure Lk (X : Rx) (r : Nat) (ay : St) (R : cu -> St -> Prop) (V : PR (List Nd)) (i0 c : Nat) : Prop where
 ok : ∀ ns j, V = .ok ns j -> j <= X.L.length -> ∀ b ad, ay.live b = none -> ad.box b = some (bm ns) -> eo r (rr X j false) ay ad -> R (.ret (.ms b 0 ns.length 6 43)) ad
 bad : ∀ ns j, V = .bad j -> i0 <= j -> j <= X.L.length -> ns.length <= 8 * (j - i0) + c -> ∀ b ad, ay.live b = none -> ad.box b = some (bm ns) -> eo r (rr X j true) ay ad -> R (.ret (.ms b 0 ns.length 6 43)) ad
section
variable {r : Nat} {ay U ad : St} {nb : List (Nat × List AV)} {b : Nat} {l : List AV}
theorem Own.fz (h : Own r ay U nb) (e : gr r U ad) : Own r ay ad nb :=
 ⟨fun p hp => ⟨(h.own p hp).1, e.bf (h.own p hp).1 (h.own p hp).2.1, (h.own p hp).2.2⟩, h.EM⟩
theorem Own.cons (h : Own r ay U nb) (e : gr r U ad) (hr : b ≠ r) (h0 : ay.live b = none) (hn : U.live b = none) (hb : ad.box b = some l) : Own r ay ad ((b, l) :: nb) := by
 refine ⟨fun p hp => ?_, ?_⟩
 · rcases dA.1 hp with rfl | hp
   · exact ⟨hr, hb, h0⟩
   · exact (h.fz e).own p hp
 · rw [dN, List.nodup_cons]
   refine ⟨fun hm => ?_, h.EM⟩
   obtain ⟨p, hp, rfl⟩ := List.mem_map.1 hm
   exact bR (h.own p hp).2.1 hn
theorem Own.ne {wk wm : List (Nat × List AV)} (h : Own r ay U (wk ++ (b, l) :: wm)) {p : Nat × List AV} (hp : p ∈ wk \/ p ∈ wm) : p.1 ≠ b := by
 have := h.EM
 rw [List.map_append, dN, List.nodup_append] at this
 obtain ⟨h1, h2, h3⟩ := this
 rw [List.nodup_cons] at h2
 intro e
 rcases hp with hp | hp
 · exact h3 _ (List.mem_map_of_mem hp) _ (List.mem_cons_self ..) e
 · have hh := List.mem_map_of_mem (f := Prod.fst) hp
   rw [e] at hh
   exact h2.1 hh
theorem Own.iN {wk wm : List (Nat × List AV)} {l' : List AV} (h : Own r ay U (wk ++ (b, l) :: wm)) (hb : ad.box b = some l') (he : ∀ b', b' ≠ b -> ad.live b' = U.live b') : Own r ay ad (wk ++ (b, l') :: wm) := by
 have g := h.own (b, l) (by simp)
 refine ⟨fun p hp => ?_, ?_⟩
 · rw [eH, dA] at hp
   have old : p ∈ wk \/ p ∈ wm -> p.1 ≠ r /\ ad.box p.1 = some p.2 /\ ay.live p.1 = none := fun hq => by
    have g2 := h.own p (by rw [eH, dA]; rcases hq with hq | hq; exact .inl hq; exact .inr (.inr hq))
    exact ⟨g2.1, by rw [fZ (he _ (h.ne hq))]; exact g2.2.1, g2.2.2⟩
   rcases hp with hp | rfl | hp
   · exact old (.inl hp)
   · exact ⟨g.1, hb, g.2.2⟩
   · exact old (.inr hp)
 · have := h.EM; simpa using this
theorem Own.drop {wk wm : List (Nat × List AV)} (h : Own r ay U (wk ++ (b, l) :: wm)) : Own r ay U (wk ++ wm) :=
 ⟨fun p hp => h.own p (by rw [eH] at hp ⊢; rcases hp with hp | hp; exact .inl hp; exact .inr (List.mem_cons_of_mem _ hp)), by
   have := h.EM
   rw [List.map_append, dN] at this
   rw [List.map_append]
   exact this.sublist (List.Sublist.append (List.Sublist.refl _) (List.sublist_cons_self ..))⟩
end
section
variable {X : Rx} {r i : Nat} {bad : Bool} {ay U : St} {V W W' : PR (List Nd)} {nb : List (Nat × List AV)} {R : cu -> St -> Prop} {K' : AV -> St -> Prop} {Kp : AV -> St -> Prop} {w : aZ}
theorem S2.bd (S : S2 X r ay V true i W nb U) : V = .bad i := by have := S.sp; simpa [Sp] using this
theorem S2.step {ad : St} {j : Nat} {Lq : Bool} (S : S2 X r ay V bad i W nb U) (A : eo r (rr X j Lq) U ad) (hj : j <= X.L.length) (h : Sp V Lq j W') : S2 X r ay V Lq j W' nb ad :=
 ⟨S.A.trans A, hj, h, S.own.fz A.ex⟩
theorem S2.vR {ad : St} (S : S2 X r ay V bad i W nb U) (e : cm U ad) : S2 X r ay V bad i W nb ad :=
 S.step (.oK S.A.box e) S.hi S.sp
end
section
variable {X : Rx} {r i : Nat} {bad : Bool} {ay U : St} {V W W' : PR (List Nd)} {nb : List (Nat × List AV)} {R : cu -> St -> Prop} {K' : AV -> St -> Prop} {Kp : AV -> St -> Prop} {k : AV -> Prop} {w : aZ}
theorem S2.same {ad : St} {b : Nat} {l : List AV} (S : S2 X r ay V bad i W nb U) (h : (b, l) ∈ nb) (e : gr r U ad) : bG [b] U ad := by
 intro c hc
 have hc : c = b := by simpa using hc
 subst hc
 have g := S.own.own _ h
 cases hx : U.live c with
 | none => exact absurd hx (bR g.2.1)
 | some x => exact e c x g.1 hx
end
end Go.Rip
namespace Go.Rip
open Go.Proofs Go.RowKit
def bx (kind : Int) (text : aZ) (n m at_ : Int) : List AV := [.int .u8 kind, .str text, .int .i64 n, .int .i64 m, .int .i64 at_, .int .i64 0]
section
variable {X : Rx} {r i : Nat} {bad : Bool} {ay U : St} {V W W' : PR (List Nd)} {nb wk wm : List (Nat × List AV)} {R : cu -> St -> Prop} {K' : AV -> St -> Prop} {Q : St -> Prop} {Kp : AV -> St -> Prop} {k : AV -> Prop} {w : aZ} {kind n m at_ : Int} {text : aZ} {bk : Nat}
theorem Lk.tail {i0 c : Nat} (O : Lk X r ay R V i0 c) : Lk X r ay (ar (fun v U => al R v U) (aa R)) V i0 c :=
 ⟨fun ns j h hj b ad h1 h2 A => al.mk (O.ok ns j h hj b ad h1 h2 A), fun ns j h h0 hj hn b ad h1 h2 A => al.mk (O.bad ns j h h0 hj hn b ad h1 h2 A)⟩
theorem S2.new {b : Nat} {l : List AV} (S : S2 X r ay V bad i W nb U) (hf : U.cB b) : S2 X r ay V bad i W ((b, l) :: nb) (U.new b (.box l)) := by
 have bW : b ≠ r := fun e => bR S.A.box (e ▸ hf.1)
 exact ⟨S.A.trans (.oK S.A.box (bj hf)), S.hi, S.sp, S.own.cons (bj hf).HF bW (S.A.ex.fresh bW hf.1) hf.1 aD⟩
end
section
variable {X : Rx} {i : Nat}
end
end Go.Rip
namespace Go.Rip
open Go.Proofs Go.RowKit
section
variable {X : Rx} {r i : Nat} {bad : Bool} {ay U : St} {V W W' : PR (List Nd)} {nb Xn : List (Nat × List AV)} {R : cu -> St -> Prop} {K' : AV -> St -> Prop} {Kp : AV -> St -> Prop} {w : aZ}
theorem S2.sub (S : S2 X r ay V bad i W nb U) (h : Xn.Sublist nb) : S2 X r ay V bad i W Xn U :=
 ⟨S.A, S.hi, S.sp, ⟨fun p hp => S.own.own p (h.subset hp), S.own.EM.sublist (h.map _)⟩⟩
end
section
variable {X : Rx} {i : Nat}
end
end Go.Rip
