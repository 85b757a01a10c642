/- Lemmas for the proof: no conditions. -/
import Derived.Test.YtnfpmiiopiinbaaGreatDoorRipZz
import Derived.Test.YtnfpmiiopiinbaaGreatDoorRipS
import Derived.Test.YtnfpmiiopiinbaaGreatDoorRipK
import Derived.Test.YtnfpmiiopiinbaaGreatDoorRipF
import Derived.Test.YtnfpmiiopiinbaaGreatDoorRipU
import Derived.Test.YtnfpmiiopiinbaaGreatDoorRipG
set_option linter.unusedVariables false
set_option linter.unusedSimpArgs false
set_option linter.loopingSimpArgs false
namespace Go.Rip
open Go.Proofs Go.RowKit
theorem xG {L : List AV} {o : Nat} {c : AV} (h : L[o]? = some c) (r : List AV) : ∃ r', (L ++ r).drop o = c :: r' := by
 have aJ := (dm.1 h).1
 rw [List.drop_append_of_le_length (by omega), fN aJ]
 have := (dm.1 h).2
 rw [this]
 exact ⟨_, rfl⟩
section
variable {U : St} {v : AV} {l : List Nd} {i o : Nat} {x : Nd} {c gv : AV} {k : AV -> Prop} {K' : AV -> St -> Prop} {Kp : AV -> St -> Prop}
theorem wb (h : gI U v l) (hx : l[i]? = some x) (hc : (cT x)[o]? = some c) (hk : K' c U) :
 (aG (some (43, 6)) none v (.int .i64 (i : Nat))).wp K U (fun p U => (ag (some o) p).wp K U (fun q U => (aq (some (false, 1)) q U).wp K U K' Kp) Kp) Kp := by
 have aJ := (dm.1 hx).1
 obtain ⟨r, hr⟩ := wy hx
 obtain ⟨r', qy⟩ := xG hc r
 rcases h with (⟨rfl, rfl⟩ | ⟨cp, rfl⟩) | ⟨b, rfl, hb⟩
 · simp at aJ
 · rw [Av, ej, hr]
   refine ⟨by omega, ?_⟩
   simp only [dr, ai, mR, qy, bG]
   exact hk
 · rw [wN, ej, ck]
   refine ⟨⟨by omega, by omega, rfl⟩, ?_⟩
   simp only [aU, ai]
   rw [ff hb, <- List.drop_drop, hr, qy, bG]
   exact hk
theorem DJ (h : gI U v l) (hx : l[i]? = some x) (hc : (cT x)[o]? = some c) (hk : k c) :
 aC K (aG (some (43, 6)) none v (.int .i64 (i : Nat))) fun p => aC K (ag (some o) p) fun q => aC K (aq (some (false, 1)) q U) k := by
 have aJ := (dm.1 hx).1
 obtain ⟨r, hr⟩ := wy hx
 obtain ⟨r', qy⟩ := xG hc r
 rcases h with (⟨rfl, rfl⟩ | ⟨cp, rfl⟩) | ⟨b, rfl, hb⟩
 · simp at aJ
 · rw [VF, ej, hr]
   refine ⟨by omega, ?_⟩
   simp only [dr, aw, oa, qy, fB]
   exact hk
 · rw [B1, ej, ck]
   refine ⟨⟨by omega, by omega, rfl⟩, ?_⟩
   simp only [aU, aw]
   rw [lK hb, <- List.drop_drop, hr, qy, fB]
   exact hk
theorem hC {r : av} (h : aC K r k) : ad K (.bool true) r k := by rw [aB, bp]; exact h
theorem NC (h : gI U v l) (hx : l[i]? = some x) (hc : (cT x)[o]? = some c) (hk : k c) :
 ad K (.bool true) (aG (some (43, 6)) none v (.int .i64 (i : Nat))) fun p => ad K (.bool true) (ag (some o) p) fun q => ad K (.bool true) (aq (some (false, 1)) q U) k := by
 simp only [aB, bp]
 exact DJ h hx hc hk
theorem PC (h : gI U v l) (hk : k (.int .i64 l.length)) : ad K (.bool true) (bB (some false) v) k := by
 rw [h.len]; exact hk
theorem dc {x : AV} (hk : k x) : ad K (.bool true) (.val x) k := hk
end
structure fj (aF U : St) (v : AV) (e : TypeId) (sz n : Nat) (l : List AV) : Prop where
 g : Grow U v e sz n l
 z : n = 0 -> v = .al
 t : Ss aF v
 ex : cJ aF U
section
variable {aF U : St} {v y : AV} {e : TypeId} {sz n m : Nat} {l l2 : List AV} {K' : AV -> St -> Prop} {Kp : AV -> St -> Prop}
theorem fj.nil (h : cJ aF U) : fj aF U .al e sz 0 [] := ⟨.inl ⟨rfl, rfl, rfl⟩, fun _ => rfl, (fun _ _ _ e => by cases e), h⟩
theorem fj.mono {ae : St} (h : fj aF U v e sz n l) (k : cJ U ae) : fj aF ae v e sz n l := by
 refine ⟨?_, h.z, h.t, h.ex.trans k⟩
 rcases h.g with g | ⟨τ, r1, r2, r3⟩
 · exact .inl g
 · exact .inr ⟨τ, r1, k.tok r2, r3⟩
theorem Ef (h : fj aF U v e sz n l) (hy : px U y = some (m, l2)) (hl : l2.length = m * sz) (hm : 0 < m) (hb : n + m <= 4294967296)
 (hk : ∀ ae v', fj aF ae v' e sz (n + m) (l ++ l2) -> (∀ b x, (∀ n l, v ≠ .vec n (.own b) l) -> U.live b = some x -> ae.live b = some x) -> K' v' ae) : (eZ (some (e, sz)) false v y U).wp K U K' Kp := by
 refine HS h.g hy hl hm hb h.z fun ae v' g e1 n1 => hk ae v' ⟨g, fun hz => by omega, fun n' τ l' hv => ?_, fun b x hx => ?_⟩ e1
 · rcases n1 n' τ l' hv with hz | ⟨n2, l2', hx⟩
   · exact h.ex.fresh hz
   · exact h.t _ _ _ hx
 · exact e1 b x (fun n' l' hv => by rw [h.t _ _ _ hv] at hx; cases hx) (h.ex b x hx)
theorem fj.sl (h : fj aF U v e sz n l) : eB v n l := by
 rcases h.g with ⟨h1, h2, h3⟩ | ⟨τ, r1, _, _⟩
 · exact .inl ⟨h1, h2, h3⟩
 · exact .inr ⟨_, r1⟩
theorem Q7 {e : TypeId} {x : AV} {z : AV} (hx : x.cS = true) (hc : ax x = [x]) (hk : K' (.vec 1 .full [x]) U) : (aP (some (e, 1)) (some [z]) 1 false [(0, x)]).wp K U K' Kp := by
 rw [fO]
 refine ⟨by omega, ?_⟩
 rw [eM (o := 0) (s := 1) rfl]
 refine ⟨⟨hx, by rw [hc]; rfl, by simp [bL]⟩, ?_⟩
 rw [gX, hc]
 exact ⟨rfl, hk⟩
end
def fK (ks : List Nat) : List AV := ks.map fun k => .int .i64 (k : Nat)
theorem Jd (ks : List Nat) : (fK ks).length = ks.length := by simp [fK]
theorem qB {ks : List Nat} {i k : Nat} (h : ks[i]? = some k) : ∃ r, (fK ks).drop i = .int .i64 (k : Nat) :: r := by
 have aJ := (dm.1 h).1
 refine ⟨(fK ks).drop (i + 1), ?_⟩
 rw [fN (by simpa [fK] using aJ)]
 have := (dm.1 h).2
 simp [fK, this]
theorem vC (x : Nd) : (cT x)[5]? = some (.int .i64 x.size) := rfl
theorem Hr (x : Nd) : (cT x)[0]? = some (.int .u8 x.kind) := rfl
theorem yV {U : St} {R : cB -> St -> Prop} {v : AV} {l : List Nd} {i : Nat} {t : Tre} (hv : gI U v l) (ht : dW l i t) (hl : l.length <= 100000)
 (h : ∀ ae v', fj U ae v' 3 1 t.kids.length (fK (bI (i + 1) t.kids)) -> R (.ret v') ae) : af K 67 [v, .int .i64 (i : Nat)] U R := by
 refine OD ?_
 unfold Qv
 have hle := ht.le
 have CQ := ki t
 rw [cq]
 refine ⟨aZ (by omega) (by omega), ?_⟩
 obtain ⟨x, hx, _, FM, _⟩ := ht.lD
 refine ⟨fun m v0 v1 v5 v6 ae => ∃ (ks : List Nat) (rest : List Tre) (p : Nat), m = rest.length /\ v0 = v /\ v1 = .int .i64 (i : Nat) /\ v6 = .int .i64 (p : Nat) /\ fj U ae v5 3 1 ks.length (fK ks) /\ iY l p rest /\ ks ++ bI p rest = bI (i + 1) t.kids /\ p + (Tre.bE rest).length = i + t.flat.length /\ ks.length + i < p,
  ⟨_, [], t.kids, i + 1, rfl, rfl, rfl, rfl, .nil (cJ.refl _), ht.kids, rfl, by omega, by simp⟩, ?_⟩
 rintro m v0 v1 v5 v6 bJ ⟨ks, rest, p, rfl, rfl, rfl, rfl, hg, nc, gL, hp, sG⟩
 have I0 := hv.o9 hg.ex
 refine wb I0 hx (vC x) ?_
 rw [cq, FM]
 refine ⟨aZ (by omega) (by omega), ?_⟩
 simp only [bj, ai, aX]
 refine ⟨fun aJ => ?_, fun fZ => ?_⟩
 · cases rest with
   | nil => simp at hp; omega
   | cons s rest =>
     obtain ⟨y, hy, _, Zg, _⟩ := nc.head.lD
     have yO := s.cR
     have pD := nc.head.le
     refine Q7 rfl rfl ?_
     refine Ef hg (m := 1) (l2 := [.int .i64 (p : Nat)]) rfl rfl (by omega) (by omega) fun bX v' g2 k2 => ?_
     have A6 := hv.o9 g2.ex
     refine wb A6 hy (vC y) ?_
     rw [cq, Zg]
     refine ⟨aZ (by omega) (by omega), rest.length, by simp, ks ++ [p], rest, p + s.flat.length, rfl, rfl, rfl, by simp, by simpa [fK] using g2, nc.tail, by rw [<- gL]; simp [bI], by simp at hp; omega, by simp; omega⟩
 · cases rest with
   | cons s rest => have := s.cR; simp at hp; omega
   | nil =>
     simp only [bI, jU] at gL
     subst gL
     refine aj.mk (h _ _ ?_)
     have : (bI (i + 1) t.kids).length = t.kids.length := jd _ _
     rw [<- this]; exact hg
theorem R9 {U : St} {R : cB -> St -> Prop} {v : AV} {l : List Nd} (hv : gI U v l) (hl : l.length <= 100000)
 (hT : ti l -> R (.ret (.bool true)) U) (hF : ¬ ti l -> R (.ret (.bool false)) U) : af K 70 [v] U R := by
 refine OG ?_
 unfold Qz
 simp only [hv.len, ai, aW, aI]
 cases nU : l with
 | nil =>
   subst nU
   simp only [oL, show decide (((0 : Nat) : Int) = 0) = true from rfl, show (true == false) = false from rfl, aB, a8, az, if_true, ai, bh]
   exact aj.mk (hF fun h => h.1.1 rfl)
 | cons x0 r0 =>
   have bQ : l ≠ [] := by rw [nU]; simp
   have hx0 : l[0]? = some x0 := by rw [nU]; rfl
   have ri : kD l = x0.size := by rw [nU]; rfl
   rw [<- nU]
   have UO : 0 < l.length := List.length_pos_iff.2 bQ
   have : ¬ ((l.length : Int) = 0) := by omega
   simp only [this, cm, dw]
   refine dc (NC (i := 0) hv hx0 (vC x0) ?_)
   refine dc (PC hv ?_)
   rw [ct]
   refine dc ?_
   simp only [az, bq, if_false, ai]
   by_cases h0 : x0.size = l.length
   · simp only [h0, bS, bV, aV]
     refine ⟨fun m v0 v3 ae => ∃ i : Nat, m = l.length - i /\ v0 = v /\ v3 = .int .i64 (i : Nat) /\ ae = U /\ i <= l.length /\ ∀ j x, j < i -> l[j]? = some x -> 1 <= x.size /\ x.size <= (l.length : Int) - j, ⟨_, 0, rfl, rfl, rfl, rfl, by omega, fun j x h => by omega⟩, ?_⟩
     rintro m v0 v3 ae ⟨i, rfl, rfl, rfl, rfl, hi, hj⟩
     simp only [hv.len, ai, bj, aX]
     refine ⟨fun aJ => ?_, fun fZ => ?_⟩
     · have aJ : i < l.length := by omega
       obtain ⟨x, hx⟩ : ∃ x, l[i]? = some x := ⟨l[i], by simp [aJ]⟩
       refine wb hv hx (vC x) ?_
       rw [bj]
       simp only [ai, aI]
       by_cases h1 : x.size < 1
       · simp only [h1, bS, show (true == false) = false from rfl, aB, a8, az, if_true, ai, bh]
         exact aj.mk (hF fun h => by have := (h.1.2.2 i x hx).1; omega)
       · simp only [h1, cm, dw]
         refine dc (dc (NC hv hx (vC x) ?_))
         refine dc (PC hv ?_)
         refine dc ?_
         rw [fx, er]
         refine hC ⟨aZ (by omega) (by omega), ?_⟩
         rw [aw, dD]
         refine dc ?_
         simp only [az, bq, if_false, ai, aX]
         refine ⟨fun h2 => aj.mk (hF fun h => by have := (h.1.2.2 i x hx).2; omega), fun h2 => ?_⟩
         rw [cq]
         refine ⟨aZ (by omega) (by omega), l.length - (i + 1), by omega, i + 1, rfl, rfl, by simp, rfl, by omega, fun j y qt hy => ?_⟩
         rcases eD j i with h | h
         · exact hj j y h hy
         · have : j = i := by omega
           subst this; rw [hx] at hy; cases hy; omega
     · have hi : i = l.length := by omega
       subst hi
       have sI : uN l := ⟨bQ, by rw [ri, h0], fun j x hx => hj j x (dm.1 hx).1 hx⟩
       clear hj fZ
       refine ⟨fun m w0 v4 bX => ∃ i : Nat, m = l.length - i /\ w0 = v0 /\ v4 = .int .i64 (i : Nat) /\ bX = ae /\ i <= l.length /\ ∀ (j : Nat) x, j < i -> l[j]? = some x -> mg l (j + x.size.toNat) l.length (j + 1) = j + x.size.toNat, ⟨_, 0, rfl, rfl, rfl, rfl, by omega, fun j x h => by omega⟩, ?_⟩
       rintro m w0 v4 bX ⟨i, rfl, rfl, rfl, rfl, hi, hj⟩
       simp only [hv.len, ai, bj, aX]
       refine ⟨fun aJ => ?_, fun fZ => ?_⟩
       · have aJ : i < l.length := by omega
         obtain ⟨x, hx⟩ : ∃ x, l[i]? = some x := ⟨l[i], by simp [aJ]⟩
         have FM := sI.2.2 i x hx
         rw [cq]
         refine ⟨aZ (by omega) (by omega), ?_⟩
         refine ⟨fun m u0 v4 v5 cE => ∃ p f : Nat, m = f /\ u0 = w0 /\ v4 = .int .i64 (i : Nat) /\ v5 = .int .i64 (p : Nat) /\ cE = bX /\ p <= l.length /\ l.length - p <= f /\ mg l (i + x.size.toNat) f p = mg l (i + x.size.toNat) l.length (i + 1), ⟨_, i + 1, l.length, rfl, rfl, rfl, rfl, rfl, by omega, by omega, rfl⟩, ?_⟩
         rintro m u0 v4 v5 cE ⟨p, f, rfl, rfl, rfl, rfl, rfl, hp, hf, hw⟩
         refine wb hv hx (vC x) ?_
         rw [cq]
         refine ⟨aZ (by omega) (by omega), ?_⟩
         simp only [ai, bj, aX]
         refine ⟨fun pC => ?_, fun hpg => ?_⟩
         · have aal : p < l.length := by omega
           obtain ⟨y, hy⟩ : ∃ y, l[p]? = some y := ⟨l[p], by simp [aal]⟩
           have Zg := sI.2.2 p y hy
           refine wb hv hy (vC y) ?_
           rw [cq]
           refine ⟨aZ (by omega) (by omega), ?_⟩
           cases m with
           | zero => omega
           | succ f =>
           rw [pX hy (by omega)] at hw
           exact ⟨f, by omega, p + y.size.toNat, f, rfl, rfl, rfl, by congr 1; omega, rfl, by omega, by omega, hw⟩
         · rw [pY (by omega)] at hw
           refine wb hv hx (vC x) ?_
           rw [cq]
           refine ⟨aZ (by omega) (by omega), ?_⟩
           simp only [ai, ct]
           by_cases U1 : (p : Int) = i + x.size
           · simp only [U1, bS, bV, aV]
             rw [cq]
             refine ⟨aZ (by omega) (by omega), l.length - (i + 1), by omega, i + 1, rfl, rfl, by simp, rfl, by omega, fun j z qt hz => ?_⟩
             rcases eD j i with h | h
             · exact hj j z h hz
             · have : j = i := by omega
               subst this; rw [hx] at hz; cases hz
               rw [<- hw]; omega
           · simp only [U1, cm, da, bh]
             exact aj.mk (hF fun h => U1 (by have := h.2 i x hx; omega))
       · have hi : i = l.length := by omega
         subst hi
         exact aj.mk (hT ⟨sI, fun j x hx => hj j x (dm.1 hx).1 hx⟩)
   · simp only [h0, cm, da, bh]
     exact aj.mk (hF fun h => h0 (by rw [<- ri]; exact h.1.2.1))
theorem Je {out : List Nat} {k x : Nat} (h : k < out.length) : aA (fK out) k (ax (.int .i64 ((x : Nat) : Int))) = fK (out.set k x) := by
 simp only [aA, AF, fK, jy, oL]
 rw [List.map_set, List.set_eq_take_append_cons_drop, if_pos (by simpa using h)]
 simp
theorem Ym {K' : AV -> Prop} {U : St} {v : AV} {ks : List Nat} {i k : Nat} (hv : eB v ks.length (fK ks)) (hk : ks[i]? = some k) (h : K' (.int .i64 (k : Nat))) :
 aC K (aG (some (3, 1)) none v (.int .i64 (i : Nat))) fun p => aC K (aq (some (false, 1)) p U) K' := by
 have aJ := (dm.1 hk).1
 obtain ⟨c, rfl, kJ⟩ := hv.at (sz := 1) (e := 3) aJ
 obtain ⟨r, hr⟩ := qB hk
 rw [kJ, Nat.mul_one, hr]
 exact ⟨by omega, h⟩
theorem WG {K' : AV -> St -> Prop} {Kp : AV -> St -> Prop} {U : St} {v : AV} {ks : List Nat} {i k : Nat} (hv : eB v ks.length (fK ks)) (hk : ks[i]? = some k) (h : K' (.int .i64 (k : Nat)) U) :
 (aG (some (3, 1)) none v (.int .i64 (i : Nat))).wp K U (fun p U => (aq (some (false, 1)) p U).wp K U K' Kp) Kp := by
 have aJ := (dm.1 hk).1
 obtain ⟨c, rfl, kJ⟩ := hv.at (sz := 1) (e := 3) aJ
 obtain ⟨r, hr⟩ := qB hk
 rw [kJ, Nat.mul_one, hr]
 exact ⟨by omega, h⟩
theorem Nn {U : St} {R : cB -> St -> Prop} {v : AV} {t : Tre} (hv : gI U v t.flat) (hl : t.flat.length <= 60000)
 (h : ∀ b ae, U.live b = none -> ae.box b = some (fK (lE 0 t)) -> cJ U ae -> R (.ret (.ms b 0 t.flat.length 1 3)) ae) : af K 73 [v] U R := by
 refine OJ ?_
 unfold QC
 simp only [hv.len, ai, pQ, if_true, wp_cond, lV]
 refine ⟨by simp only [true_and]; omega, fun b hb => ?_⟩
 have hDl := rS 0 t
 have hz : bL ((t.flat.length : Int)).toNat [AV.int .i64 0] = fK (List.replicate t.flat.length 0) := by
  rw [ej]
  simp only [fK, List.map_replicate]
  generalize t.flat.length = n
  induction n with
  | zero => rfl
  | succ n ih => rw [List.replicate_succ, <- ih]; rfl
 rw [hz]
 simp only [NV.at, ej]
 have dC : (U.new b (.box (fK (List.replicate t.flat.length 0)))).box b = some (fK (List.replicate t.flat.length 0)) := aL
 have e1 := bm hb (x := .box (fK (List.replicate t.flat.length 0)))
 have f1 := hb.1
 generalize U.new b (.box (fK (List.replicate t.flat.length 0))) = bJ at *
 let P (i j : Nat) : Prop := j = 0 \/ ∃ i' s', i' < i /\ dW t.flat i' s' /\ j ∈ bI (i' + 1) s'.kids
 have hD0 : (lE 0 t)[0]? = some 0 := by cases t; simp [sw]
 refine ⟨fun m v0 v3 v4 ae => ∃ (i : Nat) (out : List Nat), m = t.flat.length - i /\ v0 = v /\ v3 = .ms b 0 t.flat.length 1 3 /\ v4 = .int .i64 (i : Nat) /\ i <= t.flat.length /\ ae.box b = some (fK out) /\ out.length = t.flat.length /\ cJ U ae /\ ∀ j, j < t.flat.length -> P i j -> out[j]? = (lE 0 t)[j]?,
  ⟨_, 0, List.replicate t.flat.length 0, rfl, rfl, rfl, rfl, by omega, dC, by simp, e1, fun j hj hp => ?_⟩, ?_⟩
 · rcases hp with rfl | ⟨i', _, il, _⟩
   · rw [hD0]; simp [hj]
   · omega
 clear dC e1
 rintro m w v3 v4 bX ⟨i, out, rfl, rfl, rfl, rfl, hi, rh, C0, e2, hP⟩
 have A6 := hv.o9 e2
 simp only [A6.len, ai, bj, aX]
 refine ⟨fun aJ => ?_, fun fZ => ?_⟩
 · have aJ : i < t.flat.length := by omega
   obtain ⟨⟨s, e, hs, hDe, YG, hei⟩, aak⟩ := place t aJ
   have CZ : out[i]? = some e := by
    rw [hP i aJ ?_, hDe]
    rcases aak with h | ⟨i', s', h1, h2, h3⟩
    · exact .inl h
    · exact .inr ⟨i', s', h1, h2, h3⟩
   have pD := hs.le
   have hkk := Tre.nC s.kids
   have hsf := ki s
   refine yV A6 hs (by omega) fun cE v5 g3 => ?_
   have sG : (bI (i + 1) s.kids).length = s.kids.length := jd _ _
   have Zj : eB v5 (bI (i + 1) s.kids).length (fK (bI (i + 1) s.kids)) := by rw [sG]; exact g3.sl
   have U4 : ∀ k ∈ bI (i + 1) s.kids, i < k /\ k < t.flat.length := by
    have : ∀ (ts : List Tre) (p : Nat), iY t.flat p ts -> ∀ k ∈ bI p ts, p <= k /\ k < t.flat.length := by
     intro ts
     induction ts with
     | nil => intro p _ k hk; simp [bI] at hk
     | cons u ts ih =>
       intro p nc k hk
       simp only [bI, ep] at hk
       rcases hk with rfl | hk
       · have := nc.head.le; have := u.cR; omega
       · have := ih _ nc.tail k hk; omega
    intro k hk
    have := this _ _ hs.kids k hk
    omega
   simp only [bu]
   generalize gL : bI (i + 1) s.kids = ks at *
   have e3 := e2.trans g3.ex
   have Us := g3.ex.bo rh
   refine ⟨fun m w0 w3 w4 w5 w6 ae => ∃ (q : Nat) (tT : List Nat), m = ks.length - q /\ w0 = w /\ w3 = .ms b 0 t.flat.length 1 3 /\ w4 = .int .i64 (i : Nat) /\ w5 = v5 /\ w6 = .int .i64 (q : Nat) /\ q <= ks.length /\ ae.box b = some (fK tT) /\ tT.length = t.flat.length /\ cJ U ae /\ tT[i]? = some e /\ (∀ j, j < t.flat.length -> P i j -> tT[j]? = (lE 0 t)[j]?) /\ ∀ q' j, q' < q -> ks[q']? = some j -> tT[j]? = some (e + 1),
    ⟨_, 0, out, rfl, rfl, rfl, rfl, rfl, rfl, by omega, Us, C0, e3, CZ, hP, fun q' j h => by omega⟩, ?_⟩
   clear Us e3 rh hP CZ C0
   rintro m w0 w3 w4 w5 w6 cW ⟨q, tT, rfl, rfl, rfl, rfl, rfl, rfl, hq, rh, C0, e4, CZ, hP, hQ⟩
   have XT : bB (some false) w5 = .val (.int .i64 ks.length) := Zj.len
   simp only [XT, ai, bj, aX]
   refine ⟨fun tB => ?_, fun aab => ?_⟩
   · have tB : q < ks.length := by omega
     obtain ⟨eO, xJ⟩ : ∃ eO, ks[q]? = some eO := ⟨ks[q], by simp [tB]⟩
     have Y1 := U4 eO (fi xJ)
     refine Ym Zj xJ ?_
     rw [B1]
     refine ⟨⟨by omega, by omega, rfl⟩, ?_⟩
     obtain ⟨r, hr⟩ := qB CZ
     rw [lK rh, ej, Nat.mul_one, ck, hr, fB, zd]
     refine ⟨aZ (by omega) (by omega), ?_⟩
     rw [B1]
     refine ⟨⟨by omega, by omega, rfl⟩, ?_⟩
     rw [ej, Nat.mul_one, ck, cA rh]
     refine ⟨⟨rfl, rfl, by rw [Jd]; omega⟩, ?_⟩
     have tD := Je (out := tT) (k := eO) (x := e + 1) (by omega)
     rw [show (((e + 1 : Nat) : Int)) = (e : Int) + 1 by omega] at tD
     rw [tD, cq]
     refine ⟨aZ (by omega) (by omega), ks.length - (q + 1), by omega, q + 1, tT.set eO (e + 1), rfl, rfl, rfl, rfl, rfl, by simp, tB, aS, by simpa using C0, e4.set f1, ?_, fun j hj hp => ?_, fun q' j P0 hj => ?_⟩
     · rw [List.getElem?_set_ne (by omega)]; exact CZ
     · by_cases yH : eO = j
       · subst yH
         rw [List.getElem?_set_self (by omega)]
         exact (YG.bI eO (by rw [gL]; exact fi xJ)).symm
       · rw [List.getElem?_set_ne yH]; exact hP j hj hp
     · by_cases yH : eO = j
       · subst yH
         rw [List.getElem?_set_self (by omega)]
       · rw [List.getElem?_set_ne yH]
         rcases eD q' q with h | h
         · exact hQ q' j h hj
         · have : q' = q := by omega
           subst this; rw [xJ] at hj; cases hj; exact absurd rfl yH
   · have hq : q = ks.length := by omega
     subst hq
     rw [cq]
     refine ⟨aZ (by omega) (by omega), t.flat.length - (i + 1), by omega, i + 1, tT, rfl, rfl, rfl, by simp, aJ, rh, C0, e4, fun j hj hp => ?_⟩
     rcases hp with hp | ⟨i', s', h1, h2, h3⟩
     · exact hP j hj (.inl hp)
     · rcases eD i' i with h | h
       · exact hP j hj (.inr ⟨i', s', h, h2, h3⟩)
       · have : i' = i := by omega
         subst this
         have := h2.inj hs
         subst this
         have hm : j ∈ ks := by rw [<- gL]; exact h3
         obtain ⟨q', P0, C3⟩ := List.getElem_of_mem hm
         rw [hQ q' j P0 (by rw [<- C3]; simp)]
         exact (YG.bI j h3).symm
 · have hi : i = t.flat.length := by omega
   subst hi
   have : out = lE 0 t := by
    refine List.ext_getElem? fun j => ?_
    rcases eD j t.flat.length with hj | hj
    · refine hP j hj ?_
      rcases (place t hj).2 with h | ⟨i', s', h1, h2, h3⟩
      · exact .inl h
      · exact .inr ⟨i', s', by omega, h2, h3⟩
    · rw [oK (by omega), oK (by omega)]
   subst this
   exact aj.mk (h b bX f1 rh e2)
end Go.Rip
namespace Go.Rip
open Go.Proofs Go.RowKit
theorem yA {c : Prop} [Decidable c] {x : AV} {f : AV -> av} {q : Bool} {U : St} {K' : AV -> St -> Prop} {Kp : AV -> St -> Prop} (hf : c -> f x = .val (.bool q)) (hk : K' (.bool (decide c && q)) U) :
 ad K (ar (.bool (decide c)) true) (av.val x) fun v6 => ad K (ar (.bool (decide c)) true) (f v6) fun v7 => (aR (.bool (decide c)) v7 (.bool false)).wp K U K' Kp := by
 by_cases hc : c
 · simp only [hc, bS, aI, dw, aB, bp, aw, hf hc, az, if_true, ai]
   simpa [hc] using hk
 · simp only [hc, cm, aI, show (false == true) = false from rfl, aB, a8, az, bq, if_false, ai]
   simpa [hc] using hk
theorem rT {p : Bool} {x : AV} {f : AV -> av} {q : Bool} {U : St} {K' : AV -> St -> Prop} {Kp : AV -> St -> Prop} (hf : p = false -> f x = .val (.bool q)) (hk : K' (.bool (p || q)) U) :
 ad K (ar (.bool p) false) (av.val x) fun v6 => ad K (ar (.bool p) false) (f v6) fun v7 => (aR (.bool p) (.bool true) v7).wp K U K' Kp := by
 cases p with
 | true =>
   simp only [aI, show (true == false) = false from rfl, aB, a8, az, if_true, ai]
   simpa using hk
 | false =>
   simp only [aI, dw, aB, bp, aw, hf rfl, az, bq, if_false, ai]
   simpa using hk
theorem o0 (k : Int) : Pure K 141 [.int .u8 k] (.bool (jQ k)) := by
 intro U R hR
 refine KI ?_
 unfold KH
 rw [aW, ai]
 refine rT (fun _ => aW ..) (aj.eq hR ?_)
 simp only [jQ, AV.bool.injEq]; grind
theorem kW (k : Int) : Pure K 142 [.int .u8 k] (.bool (fp k)) := by
 intro U R hR
 refine KK ?_
 unfold KJ
 rw [dR, ai]
 refine yA (fun _ => fw ..) (aj.eq hR ?_)
 simp only [fp, AV.bool.injEq]; grind
theorem EK (k : Int) : Pure K 191 [.int .u8 k] (.bool (oE k)) := by
 intro U R hR
 refine LH ?_
 unfold LG
 rw [dR, ai]
 refine yA (fun _ => fw ..) (aj.eq hR ?_)
 simp only [oE, AV.bool.injEq]; grind
theorem EM (k : Int) : Pure K 139 [.int .u8 k] (.bool (p8 k)) := by
 intro U R hR
 refine KE ?_
 unfold KD
 refine (o0 k).go ?_
 refine rT (fun _ => aW ..) (aj.eq hR ?_)
 simp only [jQ, p8, AV.bool.injEq]; grind
def oY (k : Int) : Bool := decide (k = 6 \/ k = 7 \/ k = 12 \/ k = 14 \/ k = 25 \/ k = 26)
theorem va (k : Int) : Pure K 136 [.int .u8 k] (.bool (oY k)) := by
 intro U R hR
 refine Kx ?_
 unfold Kw
 refine (o0 k).go ?_
 refine rT (fun _ => aW ..) ?_
 refine rT (fun _ => aW ..) ?_
 refine rT (fun _ => aW ..) ?_
 refine rT (fun _ => aW ..) (aj.eq hR ?_)
 simp only [jQ, oY, AV.bool.injEq]; grind
theorem yT (n : Int) : Pure K 137 [.int .i64 n] (.bool (gS n)) := by
 intro U R hR
 refine Kz ?_
 unfold Ky
 rw [dR, ai]
 refine yA (fun _ => fw ..) (aj.eq hR ?_)
 simp only [gS, AV.bool.injEq]; grind
def iM (k : Int) : Bool := decide (k = 2 \/ k = 3 \/ k = 4 \/ k = 5 \/ k = 12 \/ k = 13 \/ k = 14 \/ k = 16 \/ k = 31 \/ k = 32 \/ k = 33 \/ k = 34 \/ k = 37)
theorem IB (k : Int) : Pure K 134 [.int .u8 k] (.bool (iM k)) := by
 intro U R hR
 refine Kt ?_
 unfold Ks
 intro j hj
 simp only [aW, ai, aX]
 have yes : iM k = true -> ∀ b, b = true -> j (.bool b) U := fun h b hb => by
  subst hb
  refine hj _ _ ?_
  simp only [bh]
  rw [h] at hR; exact aj.mk hR
 have no : iM k = false -> ∀ b, b = false -> j (.bool b) U := fun h b hb => by
  subst hb
  refine hj _ _ ?_
  simp only [aV]
  rw [h] at hR; exact aj.mk hR
 iterate 12
  refine ⟨fun h => yes (by simp only [iM, cP]; omega) _ (by simpa using h), fun _ => ?_⟩
 by_cases h : k = 37
 · exact yes (by simp only [iM, cP]; omega) _ (by simpa using h)
 · exact no (by simp only [iM, decide_eq_false_iff_not]; omega) _ (by simpa using h)
theorem Dj (n : Nat) (s : bf) (a : Int) (hs : s.length <= 100000) : Pure K 211 [.agg [.int .u8 n, .str s, .int .i64 a]] (.bool (decide (s ≠ [] /\ fE s = (0, n, s)))) := by
 refine Pure.of rfl rfl (fun U => rfl) fun R hR => ?_
 refine LR ?_
 unfold LQ
 rw [eA rfl]
 intro b1 dC
 have m1 : ((bD ⟨.e, 0⟩).new b1 (.box (ax (.agg [.int .u8 n, .str s, .int .i64 a])))).box b1 = some [.int .u8 n, .str s, .int .i64 a] := aL
 generalize (bD _).new b1 _ = aF at *
 clear dC
 simp only [aU, ai, ck]
 rw [ff m1]
 simp only [List.drop, bG, gb, ai, aX, aU, ck]
 refine ⟨fun h0 => ?_, fun h0 => ?_⟩
 · have h0 : s = [] := h0
   refine aj.eq (hR _) ?_
   simp [h0]
 · have h0 : s ≠ [] := h0
   rw [ff m1]
   simp only [List.drop, bG]
   refine (J1 s 0 (by omega) hs).go ?_
   rw [dX]
   have key : ∀ (c1 : List AV) (e : Int), o3 (fE s) 0 = .aQ [.agg c1, .int .i64 e] -> c1.length = 3 -> (∃ (k2 : Nat) (t2 : bf) (a2 : Int), c1 = [.int .u8 k2, .str t2, .int .i64 a2] /\ (decide (s ≠ [] /\ fE s = (0, n, s)) = (decide (e = 0) && (decide ((k2 : Int) = n) && decide (t2 = s))))) ->
    (bg (.aQ [.agg c1, .int .i64 e]) 0).wp K aF (fun v12 U =>
   (bg (.aQ [.agg c1, .int .i64 e]) 1).wp K U (fun bF U =>
   (av.cr [AV.int .u8 0, AV.str [], AV.int .i64 0]).wp K U (fun v3 U =>
   (aM (some (true, 3)) v3 v12 U).wp K U (fun _ U =>
   (ak .eql (BT.mk false false false none false) true bF (AV.int .i64 0)).wp K U (fun bA U =>
   ad K (ar bA true) (ag (some 0) v3) (fun ca =>
   ad K (ar bA true) (aq (some (false, 1)) ca U) (fun cg =>
   ad K (ar bA true) (ag (some 0) (.box b1 0)) (fun cH =>
   ad K (ar bA true) (aq (some (false, 1)) cH U) (fun v20 =>
   ad K (ar bA true) (ak .eql (BT.mk false false false none false) false cg v20) (fun v21 =>
   (aR bA v21 (AV.bool false)).wp K U (fun cn U =>
   ad K (ar cn true) (ag (some 1) v3) (fun v24 =>
   ad K (ar cn true) (aq (some (false, 1)) v24 U) (fun ek =>
   ad K (ar cn true) (ag (some 1) (.box b1 0)) (fun dK =>
   ad K (ar cn true) (aq (some (false, 1)) dK U) (fun dx =>
   ad K (ar cn true) (ak .eql (BT.mk false false false none false) false ek dx) (fun v28 =>
   (aR cn v28 (AV.bool false)).wp K U (fun cz U =>
   aj R cz U) (aa R))))))) (aa R))))))) (aa R)) (aa R)) (aa R)) (aa R)) (aa R) := by
    rintro c1 e - wX ⟨k2, t2, a2, rfl, hd⟩
    simp only [bR, List.drop, bG]
    rw [cx]
    intro b3 jN
    have n31 := jN.bZ m1
    have m3 : (aF.new b3 (.box [AV.int .u8 0, AV.str [], AV.int .i64 0])).box b3 = some [AV.int .u8 0, AV.str [], AV.int .i64 0] := aL
    have Jy := (bm jN (x := .box [AV.int .u8 0, AV.str [], AV.int .i64 0])).bo m1
    generalize aF.new b3 (.box [AV.int .u8 0, AV.str [], AV.int .i64 0]) = bJ at *
    rw [cA m3]
    refine ⟨⟨rfl, rfl, by simp⟩, ?_⟩
    have g3 : (bJ.set b3 (.box (aA [AV.int .u8 0, AV.str [], AV.int .i64 0] 0 (ax (.agg [.int .u8 k2, .str t2, .int .i64 a2]))))).box b3 = some [.int .u8 k2, .str t2, .int .i64 a2] := by rw [aS]; rfl
    have g1 : (bJ.set b3 (.box (aA [AV.int .u8 0, AV.str [], AV.int .i64 0] 0 (ax (.agg [.int .u8 k2, .str t2, .int .i64 a2]))))).box b1 = some [.int .u8 n, .str s, .int .i64 a] := by rw [aN n31]; exact Jy
    generalize bJ.set b3 (.box (aA [AV.int .u8 0, AV.str [], AV.int .i64 0] 0 (ax (.agg [.int .u8 k2, .str t2, .int .i64 a2])))) = bX at *
    simp only [aW, ai]
    rw [hd] at hR
    by_cases he : e = 0
    · simp only [he, bS, aI, dw, aB, bp, aU, aw, ck, lK g3, lK g1, List.drop, fB, aW, az, if_true, ai]
      by_cases hk : (k2 : Int) = n
      · simp only [hk, bS, aI, dw, aB, bp, aU, aw, ck, lK g3, lK g1, List.drop, fB, gb, az, if_true, ai]
        refine aj.eq (hR _) ?_
        simp [he, hk]
      · simp only [hk, cm, aI, show (false == true) = false from rfl, aB, a8, az, bq, if_false, ai]
        refine aj.eq (hR _) ?_
        simp [he, hk]
    · simp only [he, cm, aI, show (false == true) = false from rfl, aB, a8, az, bq, if_false, ai]
      refine aj.eq (hR _) ?_
      simp [he]
   obtain ⟨⟨e, k2, t2⟩, ht⟩ : ∃ p, fE s = p := ⟨_, rfl⟩
   rw [ht]
   unfold o3
   by_cases he : e = 0
   · rw [if_pos he]
     refine key _ _ ?_ rfl ⟨k2, t2, _, rfl, ?_⟩
     · unfold o3; rw [ht, if_pos he]
     · have e3 : ((k2 : Int) = (n : Int)) = (k2 = n) := by simp; omega
       simp only [ht, jz, he, e3]; simp [h0]
   · rw [if_neg he]
     refine key _ _ ?_ rfl ⟨0, [], 0, rfl, ?_⟩
     · unfold o3; rw [ht, if_neg he]
     · rw [ht]; simp [he]
theorem EL (s : bf) (hs : s.length <= 100000) : Pure K 135 [.str s] (.bool (iC s)) := by
 intro U R hR
 refine Kv ?_
 unfold Ku
 refine nP [.int .u8 1, .str s, .int .i64 0] rfl ?_
 refine (Dj 1 s 0 hs).go ?_
 refine aj.eq hR ?_
 unfold iC
 have : fE s = (0, 1, s) -> s ≠ [] := fun h e => by subst e; revert h; decide
 rw [AV.bool.injEq, decide_eq_decide]
 exact ⟨fun h => h.2, fun h => ⟨this h, h⟩⟩
end Go.Rip
namespace Go.Rip
open Go.Proofs Go.RowKit
def eC (ks : List Int) : List AV := ks.map (.int .u8)
theorem zZ {ks : List Int} {i : Nat} {k : Int} (h : ks[i]? = some k) : ∃ r, (eC ks).drop i = .int .u8 k :: r := by
 have aJ := (dm.1 h).1
 refine ⟨(eC ks).drop (i + 1), ?_⟩
 rw [fN (by simpa [eC] using aJ)]
 have := (dm.1 h).2
 simp [eC, this]
section
variable {U : St} {v : AV} {ks : List Int} {i : Nat} {k : Int} {e : Nat} {K' : AV -> St -> Prop} {Kp : AV -> St -> Prop} {kq : AV -> Prop}
theorem Pv (hv : eB v ks.length (eC ks)) (hk : ks[i]? = some k) (h : K' (.int .u8 k) U) :
 (aG (some (e, 1)) none v (.int .i64 (i : Nat))).wp K U (fun p U => (aq (some (false, 1)) p U).wp K U K' Kp) Kp := by
 have aJ := (dm.1 hk).1
 obtain ⟨c, rfl, kJ⟩ := hv.at (sz := 1) (e := e) aJ
 obtain ⟨r, hr⟩ := zZ hk
 rw [kJ, Nat.mul_one, hr]
 exact ⟨by omega, h⟩
theorem CH (hv : eB v ks.length (eC ks)) (hk : ks[i]? = some k) (h : kq (.int .u8 k)) :
 ad K (.bool true) (aG (some (e, 1)) none v (.int .i64 (i : Nat))) fun p => ad K (.bool true) (aq (some (false, 1)) p U) kq := by
 have aJ := (dm.1 hk).1
 obtain ⟨c, rfl, kJ⟩ := hv.at (sz := 1) (e := e) aJ
 obtain ⟨r, hr⟩ := zZ hk
 rw [kJ, Nat.mul_one, hr]
 exact hC ⟨by omega, hC h⟩
theorem p6 {f : FuncId} {args : List AV} {x : AV} (h : Pure K f args x) (hk : kq x) : ad K (.bool true) (av.enter f args) kq := hC ⟨x, h, hk⟩
end
theorem zF {f : FuncId} {p : Int -> Bool} {U : St} {R : cB -> St -> Prop} {v : AV} {ks : List Int} (hv : eB v ks.length (eC ks)) (hl : ks.length <= 100000) (hp : ∀ k, Pure K f [.int .u8 k] (.bool (p k))) (h : R (.ret (.bool (ks.all p))) U) :
 cL 2 [v, (AV.int .i64 0)] U fun lp v0 v3 U =>
 (bB (some false) v0).wp K U (fun v6 U =>
 (ak .lss (BT.mk false false false none false) false v3 v6).wp K U (fun v7 U =>
 ao v7 (
  (aG (some (5, 1)) none v0 v3).wp K U (fun v12 U =>
  (aq (some (false, 1)) v12 U).wp K U (fun bF U =>
  af K f [bF] U (au (fun bP U =>
  (fo .not bP).wp K U (fun bA U =>
  ao bA (
   aj R (AV.bool false) U) (
   (ak .add (BT.mk false false false none false) true v3 (AV.int .i64 1)).wp K U (fun v9 U =>
   lp v0 v9 U) (aa R))) (aa R)) (aa R))) (aa R)) (aa R)) (
  aj R (AV.bool true) U)) (aa R)) (aa R) := by
 refine ⟨fun m v0 v3 ae => ∃ i : Nat, m = ks.length - i /\ i <= ks.length /\ v0 = v /\ v3 = .int .i64 (i : Nat) /\ ae = U /\ (ks.take i).all p = true, ⟨_, 0, rfl, by omega, rfl, rfl, rfl, by simp⟩, ?_⟩
 rintro m v0 v3 ae ⟨i, rfl, hi, rfl, rfl, rfl, bw⟩
 have hlen : bB (some false) v0 = .val (.int .i64 ks.length) := hv.len
 simp only [hlen, bj, ai, aX]
 refine ⟨fun aJ => ?_, fun fZ => ?_⟩
 · have aJ : i < ks.length := by omega
   have hx : ks[i]? = some ks[i] := by simp [aJ]
   refine Pv hv hx ((hp _).go ?_)
   simp only [cU, ai]
   cases sH : p ks[i] with
   | true =>
     simp only [bV, aV, cq]
     refine ⟨aZ (by omega) (by omega), ks.length - (i + 1), by omega, i + 1, rfl, by omega, rfl, by simp, rfl, ?_⟩
     rw [od, hx, List.all_append, bw]; simp [sH]
   | false =>
     simp only [da, bh]
     have : ks.all p = false := by
      cases hb : ks.all p with
      | false => rfl
      | true => rw [dJ] at hb; rw [hb _ (qN aJ)] at sH; cases sH
     rw [this] at h; exact aj.mk h
 · have hi : i = ks.length := by omega
   subst hi
   rw [pv] at bw
   rw [bw] at h; exact aj.mk h
section
variable {v : AV} {ks : List Int}
theorem Cg (hv : eB v ks.length (eC ks)) (hl : ks.length <= 100000) : Pure K 138 [v] (.bool (ks.all oE)) := fun U R hR => by
 refine KB ?_; unfold KA; exact zF hv hl EK hR
theorem Cf (hv : eB v ks.length (eC ks)) (hl : ks.length <= 100000) : Pure K 143 [v] (.bool (ks.all jQ)) := fun U R hR => by
 refine KM ?_; unfold KL; exact zF hv hl o0 hR
theorem nO (hv : eB v ks.length (eC ks)) (hl : ks.length <= 100000) : Pure K 144 [v] (.bool (ks.all fp)) := fun U R hR => by
 refine KO ?_; unfold KN; exact zF hv hl kW hR
theorem Gr (hv : eB v ks.length (eC ks)) (hl : ks.length <= 100000) (c : Int) : Pure K 140 [v, .int .u8 c] (.bool (ks.all fun k => decide (k = c))) := fun U R h => by
 refine KG ?_
 unfold KF
 refine ⟨fun m v0 v1 v3 ae => ∃ i : Nat, m = ks.length - i /\ i <= ks.length /\ v0 = v /\ v1 = .int .u8 c /\ v3 = .int .i64 (i : Nat) /\ ae = U /\ (ks.take i).all (fun k => decide (k = c)) = true, ⟨_, 0, rfl, by omega, rfl, rfl, rfl, rfl, by simp⟩, ?_⟩
 rintro m v0 v1 v3 ae ⟨i, rfl, hi, rfl, rfl, rfl, rfl, bw⟩
 have hlen : bB (some false) v0 = .val (.int .i64 ks.length) := hv.len
 simp only [hlen, bj, ai, aX]
 refine ⟨fun aJ => ?_, fun fZ => ?_⟩
 · have aJ : i < ks.length := by omega
   have hx : ks[i]? = some ks[i] := by simp [aJ]
   refine Pv hv hx ?_
   rw [ct, ai]
   by_cases sH : ks[i] = c
   · simp only [sH, bS, bV, aV, cq]
     refine ⟨aZ (by omega) (by omega), ks.length - (i + 1), by omega, i + 1, rfl, by omega, rfl, rfl, by simp, rfl, ?_⟩
     rw [od, hx, List.all_append, bw]; simp [sH]
   · simp only [sH, cm, da, bh]
     have : ks.all (fun k => decide (k = c)) = false := by
      cases hb : ks.all (fun k => decide (k = c)) with
      | false => rfl
      | true => rw [dJ] at hb; exact absurd (of_decide_eq_true (hb _ (qN aJ))) sH
     rw [this] at h; exact aj.mk h
 · have hi : i = ks.length := by omega
   subst hi
   rw [pv] at bw
   rw [bw] at h; exact aj.mk h
theorem Em (hv : eB v ks.length (eC ks)) (hl : ks.length <= 100000) : Pure K 145 [v] (.bool (ks.all jP)) := fun U R h => by
 refine KS ?_
 unfold KP
 refine ⟨fun m v0 v3 ae => ∃ i : Nat, m = ks.length - i /\ i <= ks.length /\ v0 = v /\ v3 = .int .i64 (i : Nat) /\ ae = U /\ (ks.take i).all jP = true, ⟨_, 0, rfl, by omega, rfl, rfl, rfl, by simp⟩, ?_⟩
 rintro m v0 v3 ae ⟨i, rfl, hi, rfl, rfl, rfl, bw⟩
 have hlen : bB (some false) v0 = .val (.int .i64 ks.length) := hv.len
 simp only [hlen, bj, ai, aX]
 refine ⟨fun aJ => ?_, fun fZ => ?_⟩
 · have aJ : i < ks.length := by omega
   have hx : ks[i]? = some ks[i] := by simp [aJ]
   have NF : jP ks[i] = true -> (ak .add (BT.mk false false false none false) true (.int .i64 (i : Nat)) (AV.int .i64 1)).wp K ae (fun v9 U => (∃ m', m' < ks.length - i /\ ∃ P7 : Nat, m' = ks.length - P7 /\ P7 <= ks.length /\ v0 = v0 /\ v9 = .int .i64 (P7 : Nat) /\ U = ae /\ (ks.take P7).all jP = true)) (aa R) := fun sH => by
    rw [cq]
    refine ⟨aZ (by omega) (by omega), ks.length - (i + 1), by omega, i + 1, rfl, by omega, rfl, by simp, rfl, ?_⟩
    rw [od, hx, List.all_append, bw]; simp [sH]
   have bad : jP ks[i] = false -> aj R (AV.bool false) ae := fun sH => by
    have : ks.all jP = false := by
     cases hb : ks.all jP with
     | false => rfl
     | true => rw [dJ] at hb; rw [hb _ (qN aJ)] at sH; cases sH
    rw [this] at h; exact aj.mk h
   refine Pv hv hx ((kW _).go ?_)
   simp only [cU, ai]
   cases ht : fp ks[i] with
   | true =>
     simp only [bV, aI, show (false == true) = false from rfl, aB, a8, az, bq, if_false, ai, aV]
     exact NF (by simp only [fp, jP, cP] at ht ⊢; omega)
   | false =>
     simp only [da, aI, dw]
     refine dc (dc (CH hv hx ?_))
     rw [ct]
     refine dc ?_
     simp only [az, if_true, ai]
     by_cases h5 : ks[i] = 35
     · simp only [h5, bS, bV, aI, show (false == true) = false from rfl, aB, a8, az, bq, if_false, ai, aV]
       exact NF (by rw [h5]; rfl)
     · simp only [h5, cm, da, aI, dw]
       refine dc (dc (CH hv hx ?_))
       rw [ct]
       refine dc ?_
       simp only [az, if_true, ai]
       by_cases h6 : ks[i] = 36
       · simp only [h6, bS, bV, aV]
         exact NF (by rw [h6]; rfl)
       · simp only [h6, cm, da, bh]
         exact bad (by simp only [fp, jP, decide_eq_false_iff_not] at ht ⊢; omega)
 · have hi : i = ks.length := by omega
   subst hi
   rw [pv] at bw
   rw [bw] at h; exact aj.mk h
end
end Go.Rip
