/- Lemmas for the proof: no conditions. -/
import Derived.Test.YtnfpmiiopiinbaaGreatDoorRipZz
import Derived.Test.YtnfpmiiopiinbaaGreatDoorRipS
import Derived.Test.YtnfpmiiopiinbaaGreatDoorRipK
import Derived.Test.YtnfpmiiopiinbaaGreatDoorRipF
import Derived.Test.YtnfpmiiopiinbaaGreatDoorRipU
import Derived.Test.YtnfpmiiopiinbaaGreatDoorRipG
set_option linter.unusedVariables false
set_option linter.unusedSimpArgs false
set_option linter.loopingSimpArgs false
namespace Go.Rip
open Go.Proofs Go.RowKit
theorem wR {L : List AV} {o : Nat} {c : AV} (h : L[o]? = some c) (r : List AV) : ∃ r', (L ++ r).drop o = c :: r' := by
 have aK := (dx.1 h).1
 rw [List.drop_append_of_le_length (by omega), gp aK]
 have := (dx.1 h).2
 rw [this]
 exact ⟨_, rfl⟩
section
variable {U : St} {v : AV} {l : List Nd} {i o : Nat} {x : Nd} {c gv : AV} {k : AV -> Prop} {K' : AV -> St -> Prop} {Kp : AV -> St -> Prop}
theorem Ut (h : j0 U v l) (hx : l[i]? = some x) (hc : (bD x)[o]? = some c) (hk : K' c U) :
 (aP (some (43, 6)) none v (.int .i64 (i : Nat))).wp K U (fun p U => (af (some o) p).wp K U (fun q U => (aq (some (false, 1)) q U).wp K U K' Kp) Kp) Kp := by
 have aK := (dx.1 hx).1
 obtain ⟨r, hr⟩ := rN hx
 obtain ⟨r', pw⟩ := wR hc r
 rcases h with (⟨rfl, rfl⟩ | ⟨cp, rfl⟩) | ⟨b, rfl, hb⟩
 · simp at aK
 · rw [Dp, eG, hr]
   refine ⟨by omega, ?_⟩
   simp only [cQ, ah, ox, pw, bB]
   exact hk
 · rw [Bg, eG, cD]
   refine ⟨⟨by omega, by omega, rfl⟩, ?_⟩
   simp only [aU, ah]
   rw [fe hb, <- List.drop_drop, hr, pw, bB]
   exact hk
theorem YD (h : j0 U v l) (hx : l[i]? = some x) (hc : (bD x)[o]? = some c) (hk : k c) :
 ai K (aP (some (43, 6)) none v (.int .i64 (i : Nat))) fun p => ai K (af (some o) p) fun q => ai K (aq (some (false, 1)) q U) k := by
 have aK := (dx.1 hx).1
 obtain ⟨r, hr⟩ := rN hx
 obtain ⟨r', pw⟩ := wR hc r
 rcases h with (⟨rfl, rfl⟩ | ⟨cp, rfl⟩) | ⟨b, rfl, hb⟩
 · simp at aK
 · rw [S8, eG, hr]
   refine ⟨by omega, ?_⟩
   simp only [cQ, aC, mY, pw, fP]
   exact hk
 · rw [GD, eG, cD]
   refine ⟨⟨by omega, by omega, rfl⟩, ?_⟩
   simp only [aU, aC]
   rw [oD hb, <- List.drop_drop, hr, pw, fP]
   exact hk
theorem pJ {r : aA} (h : ai K r k) : aj K (.bool true) r k := by rw [aM, bZ]; exact h
theorem jv {x : AV} (hk : k x) : aj K (.bool true) (.val x) k := hk
end
structure fM (ay U : St) (v : AV) (e : TypeId) (sz n : Nat) (l : List AV) : Prop where
 g : Grow U v e sz n l
 z : n = 0 -> v = .ag
 t : Qo ay v
 ex : cm ay U
section
variable {ay U : St} {v y : AV} {e : TypeId} {sz n m : Nat} {l l2 : List AV} {K' : AV -> St -> Prop} {Kp : AV -> St -> Prop}
theorem fM.nil (h : cm ay U) : fM ay U .ag e sz 0 [] := ⟨.inl ⟨rfl, rfl, rfl⟩, fun _ => rfl, (fun _ _ _ e => by cases e), h⟩
theorem fM.mono {ad : St} (h : fM ay U v e sz n l) (k : cm U ad) : fM ay ad v e sz n l := by
 refine ⟨?_, h.z, h.t, h.ex.trans k⟩
 rcases h.g with g | ⟨τ, r1, r2, r3⟩
 · exact .inl g
 · exact .inr ⟨τ, r1, k.tok r2, r3⟩
theorem Up (h : fM ay U v e sz n l) (hy : oF U y = some (m, l2)) (hl : l2.length = m * sz) (hm : 0 < m) (hb : n + m <= 4294967296)
 (hk : ∀ ad v', fM ay ad v' e sz (n + m) (l ++ l2) -> (∀ b x, (∀ n l, v ≠ .vec n (.own b) l) -> U.live b = some x -> ad.live b = some x) -> K' v' ad) : (dS (some (e, sz)) false v y U).wp K U K' Kp := by
 refine G7 h.g hy hl hm hb h.z fun ad v' g e1 n1 => hk ad v' ⟨g, fun hz => by omega, fun n' τ l' hv => ?_, fun b x hx => ?_⟩ e1
 · rcases n1 n' τ l' hv with hz | ⟨n2, l2', hx⟩
   · exact h.ex.fresh hz
   · exact h.t _ _ _ hx
 · exact e1 b x (fun n' l' hv => by rw [h.t _ _ _ hv] at hx; cases hx) (h.ex b x hx)
theorem fM.sl (h : fM ay U v e sz n l) : eN v n l := by
 rcases h.g with ⟨h1, h2, h3⟩ | ⟨τ, r1, _, _⟩
 · exact .inl ⟨h1, h2, h3⟩
 · exact .inr ⟨_, r1⟩
end
end Go.Rip
namespace Go.Rip
open Go.Proofs Go.RowKit
theorem NI {c : Prop} [Decidable c] {x : AV} {f : AV -> aA} {q : Bool} {U : St} {K' : AV -> St -> Prop} {Kp : AV -> St -> Prop} (hf : c -> f x = .val (.bool q)) (hk : K' (.bool (decide c && q)) U) :
 aj K (aI (.bool (decide c)) true) (aA.val x) fun v6 => aj K (aI (.bool (decide c)) true) (f v6) fun v7 => (bF (.bool (decide c)) v7 (.bool false)).wp K U K' Kp := by
 by_cases hc : c
 · simp only [hc, cX, aW, fK, aM, bZ, aC, hf hc, aJ, if_true, ah]
   simpa [hc] using hk
 · simp only [hc, dz, aW, show (false == true) = false from rfl, aM, cc, aJ, bu, if_false, ah]
   simpa [hc] using hk
theorem FG {p : Bool} {x : AV} {f : AV -> aA} {q : Bool} {U : St} {K' : AV -> St -> Prop} {Kp : AV -> St -> Prop} (hf : p = false -> f x = .val (.bool q)) (hk : K' (.bool (p || q)) U) :
 aj K (aI (.bool p) false) (aA.val x) fun v6 => aj K (aI (.bool p) false) (f v6) fun v7 => (bF (.bool p) (.bool true) v7).wp K U K' Kp := by
 cases p with
 | true =>
   simp only [aW, show (true == false) = false from rfl, aM, cc, aJ, if_true, ah]
   simpa using hk
 | false =>
   simp only [aW, fK, aM, bZ, aC, hf rfl, aJ, bu, if_false, ah]
   simpa using hk
def FR (k : Int) : Bool := decide (k = 6 \/ k = 7 \/ k = 12 \/ k = 14 \/ k = 25 \/ k = 26)
def FT (k : Int) : Bool := decide (k = 2 \/ k = 3 \/ k = 4 \/ k = 5 \/ k = 12 \/ k = 13 \/ k = 14 \/ k = 16 \/ k = 31 \/ k = 32 \/ k = 33 \/ k = 34 \/ k = 37)
end Go.Rip
namespace Go.Rip
open Go.Proofs Go.RowKit
def j6 (ks : List Int) : List AV := ks.map (.int .u8)
theorem PE {ks : List Int} {i : Nat} {k : Int} (h : ks[i]? = some k) : ∃ r, (j6 ks).drop i = .int .u8 k :: r := by
 have aK := (dx.1 h).1
 refine ⟨(j6 ks).drop (i + 1), ?_⟩
 rw [gp (by simpa [j6] using aK)]
 have := (dx.1 h).2
 simp [j6, this]
section
variable {U : St} {v : AV} {ks : List Int} {i : Nat} {k : Int} {e : Nat} {K' : AV -> St -> Prop} {Kp : AV -> St -> Prop} {kq : AV -> Prop}
end
section
variable {v : AV} {ks : List Int}
end
end Go.Rip
