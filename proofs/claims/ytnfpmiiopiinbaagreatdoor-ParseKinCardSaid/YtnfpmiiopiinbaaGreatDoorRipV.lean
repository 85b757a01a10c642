/- Lemmas for the proof: no conditions. -/
import Derived.Test.YtnfpmiiopiinbaaGreatDoorRipZz
import Derived.Test.YtnfpmiiopiinbaaGreatDoorRipS
import Derived.Test.YtnfpmiiopiinbaaGreatDoorRipK
import Derived.Test.YtnfpmiiopiinbaaGreatDoorRipF
import Derived.Test.YtnfpmiiopiinbaaGreatDoorRipU
import Derived.Test.YtnfpmiiopiinbaaGreatDoorRipG
set_option linter.unusedVariables false
set_option linter.unusedSimpArgs false
set_option linter.loopingSimpArgs false
namespace Go.Rip
open Go.Proofs Go.RowKit
theorem vy {L : List AV} {o : Nat} {c : AV} (h : L[o]? = some c) (r : List AV) : ∃ r', (L ++ r).drop o = c :: r' := by
 have aH := (cT.1 h).1
 rw [List.drop_append_of_le_length (by omega), fT aH]
 have := (cT.1 h).2
 rw [this]
 exact ⟨_, rfl⟩
section
variable {U : St} {v : AV} {l : List Nd} {i o : Nat} {x : Nd} {c gv : AV} {k : AV -> Prop} {K' : AV -> St -> Prop} {Kp : AV -> St -> Prop}
theorem L9 (h : lz U v l) (hx : l[i]? = some x) (hc : (cS x)[o]? = some c) (hk : K' c U) :
 (aJ (some (43, 6)) none v (.int .i64 (i : Nat))).wp K U (fun p U => (af (some o) p).wp K U (fun q U => (ao (some (false, 1)) q U).wp K U K' Kp) Kp) Kp := by
 have aH := (cT.1 hx).1
 obtain ⟨r, hr⟩ := uz hx
 obtain ⟨r', oL⟩ := vy hc r
 rcases h with (⟨rfl, rfl⟩ | ⟨cp, rfl⟩) | ⟨b, rfl, hb⟩
 · simp at aH
 · rw [L7, eF, hr]
   refine ⟨by omega, ?_⟩
   simp only [cJ, ag, o8, oL, bD]
   exact hk
 · rw [si, eF, ck]
   refine ⟨⟨by omega, by omega, rfl⟩, ?_⟩
   simp only [aU, ag]
   rw [eK hb, <- List.drop_drop, hr, oL, bD]
   exact hk
theorem Wx (h : lz U v l) (hx : l[i]? = some x) (hc : (cS x)[o]? = some c) (hk : k c) :
 av K (aJ (some (43, 6)) none v (.int .i64 (i : Nat))) fun p => av K (af (some o) p) fun q => av K (ao (some (false, 1)) q U) k := by
 have aH := (cT.1 hx).1
 obtain ⟨r, hr⟩ := uz hx
 obtain ⟨r', oL⟩ := vy hc r
 rcases h with (⟨rfl, rfl⟩ | ⟨cp, rfl⟩) | ⟨b, rfl, hb⟩
 · simp at aH
 · rw [Rp, eF, hr]
   refine ⟨by omega, ?_⟩
   simp only [cJ, aC, lj, oL, eP]
   exact hk
 · rw [Fj, eF, ck]
   refine ⟨⟨by omega, by omega, rfl⟩, ?_⟩
   simp only [aU, aC]
   rw [nJ hb, <- List.drop_drop, hr, oL, eP]
   exact hk
theorem oX {r : aA} (h : av K r k) : ah K (.bool true) r k := by rw [aI, bT]; exact h
theorem jd {x : AV} (hk : k x) : ah K (.bool true) (.val x) k := hk
end
structure fz (az U : St) (v : AV) (e : TypeId) (sz n : Nat) (l : List AV) : Prop where
 g : Grow U v e sz n l
 z : n = 0 -> v = .aq
 t : OL az v
 ex : cF az U
section
variable {az U : St} {v y : AV} {e : TypeId} {sz n m : Nat} {l l2 : List AV} {K' : AV -> St -> Prop} {Kp : AV -> St -> Prop}
theorem fz.nil (h : cF az U) : fz az U .aq e sz 0 [] := ⟨.inl ⟨rfl, rfl, rfl⟩, fun _ => rfl, (fun _ _ _ e => by cases e), h⟩
theorem fz.mono {ad : St} (h : fz az U v e sz n l) (k : cF U ad) : fz az ad v e sz n l := by
 refine ⟨?_, h.z, h.t, h.ex.trans k⟩
 rcases h.g with g | ⟨τ, r1, r2, r3⟩
 · exact .inl g
 · exact .inr ⟨τ, r1, k.tok r2, r3⟩
theorem JK (h : fz az U v e sz n l) (hy : nL U y = some (m, l2)) (hl : l2.length = m * sz) (hm : 0 < m) (hb : n + m <= 4294967296)
 (hk : ∀ ad v', fz az ad v' e sz (n + m) (l ++ l2) -> (∀ b x, (∀ n l, v ≠ .vec n (.own b) l) -> U.live b = some x -> ad.live b = some x) -> K' v' ad) : (eN (some (e, sz)) false v y U).wp K U K' Kp := by
 refine FG h.g hy hl hm hb h.z fun ad v' g e1 n1 => hk ad v' ⟨g, fun hz => by omega, fun n' τ l' hv => ?_, fun b x hx => ?_⟩ e1
 · rcases n1 n' τ l' hv with hz | ⟨n2, YM, hx⟩
   · exact h.ex.fresh hz
   · exact h.t _ _ _ hx
 · exact e1 b x (fun n' l' hv => by rw [h.t _ _ _ hv] at hx; cases hx) (h.ex b x hx)
theorem fz.sl (h : fz az U v e sz n l) : eS v n l := by
 rcases h.g with ⟨h1, h2, h3⟩ | ⟨τ, r1, _, _⟩
 · exact .inl ⟨h1, h2, h3⟩
 · exact .inr ⟨_, r1⟩
theorem Ui {e : TypeId} {x : AV} {z : AV} (hx : x.cr = true) (hc : au x = [x]) (hk : K' (.vec 1 .full [x]) U) : (aD (some (e, 1)) (some [z]) 1 false [(0, x)]).wp K U K' Kp := by
 rw [fG]
 refine ⟨by omega, ?_⟩
 rw [ee (o := 0) (s := 1) rfl]
 refine ⟨⟨hx, by rw [hc]; rfl, by simp [bp]⟩, ?_⟩
 rw [gw, hc]
 exact ⟨rfl, hk⟩
end
def fM (ks : List Nat) : List AV := ks.map fun k => .int .i64 (k : Nat)
theorem KH {ks : List Nat} {i k : Nat} (h : ks[i]? = some k) : ∃ r, (fM ks).drop i = .int .i64 (k : Nat) :: r := by
 have aH := (cT.1 h).1
 refine ⟨(fM ks).drop (i + 1), ?_⟩
 rw [fT (by simpa [fM] using aH)]
 have := (cT.1 h).2
 simp [fM, this]
end Go.Rip
namespace Go.Rip
open Go.Proofs Go.RowKit
theorem Me {c : Prop} [Decidable c] {x : AV} {f : AV -> aA} {q : Bool} {U : St} {K' : AV -> St -> Prop} {Kp : AV -> St -> Prop} (hf : c -> f x = .val (.bool q)) (hk : K' (.bool (decide c && q)) U) :
 ah K (aF (.bool (decide c)) true) (aA.val x) fun v6 => ah K (aF (.bool (decide c)) true) (f v6) fun v7 => (bu (.bool (decide c)) v7 (.bool false)).wp K U K' Kp := by
 by_cases hc : c
 · simp only [hc, cV, aT, fC, aI, bT, aC, hf hc, aG, if_true, ag]
   simpa [hc] using hk
 · simp only [hc, db, aT, show (false == true) = false from rfl, aI, bS, aG, bl, if_false, ag]
   simpa [hc] using hk
theorem El {p : Bool} {x : AV} {f : AV -> aA} {q : Bool} {U : St} {K' : AV -> St -> Prop} {Kp : AV -> St -> Prop} (hf : p = false -> f x = .val (.bool q)) (hk : K' (.bool (p || q)) U) :
 ah K (aF (.bool p) false) (aA.val x) fun v6 => ah K (aF (.bool p) false) (f v6) fun v7 => (bu (.bool p) (.bool true) v7).wp K U K' Kp := by
 cases p with
 | true =>
   simp only [aT, show (true == false) = false from rfl, aI, bS, aG, if_true, ag]
   simpa using hk
 | false =>
   simp only [aT, fC, aI, bT, aC, hf rfl, aG, bl, if_false, ag]
   simpa using hk
def Es (k : Int) : Bool := decide (k = 6 \/ k = 7 \/ k = 12 \/ k = 14 \/ k = 25 \/ k = 26)
def Et (k : Int) : Bool := decide (k = 2 \/ k = 3 \/ k = 4 \/ k = 5 \/ k = 12 \/ k = 13 \/ k = 14 \/ k = 16 \/ k = 31 \/ k = 32 \/ k = 33 \/ k = 34 \/ k = 37)
end Go.Rip
namespace Go.Rip
open Go.Proofs Go.RowKit
def jG (ks : List Int) : List AV := ks.map (.int .u8)
theorem NW {ks : List Int} {i : Nat} {k : Int} (h : ks[i]? = some k) : ∃ r, (jG ks).drop i = .int .u8 k :: r := by
 have aH := (cT.1 h).1
 refine ⟨(jG ks).drop (i + 1), ?_⟩
 rw [fT (by simpa [jG] using aH)]
 have := (cT.1 h).2
 simp [jG, this]
section
variable {U : St} {v : AV} {ks : List Int} {i : Nat} {k : Int} {e : Nat} {K' : AV -> St -> Prop} {Kp : AV -> St -> Prop} {kq : AV -> Prop}
end
section
variable {v : AV} {ks : List Int}
end
end Go.Rip
