/- Lemmas for the proof: no conditions. -/
import Derived.Test.YtnfpmiiopiinbaaGreatDoorRipZz
import Derived.Test.YtnfpmiiopiinbaaGreatDoorRipS
import Derived.Test.YtnfpmiiopiinbaaGreatDoorRipK
import Derived.Test.YtnfpmiiopiinbaaGreatDoorRipF
import Derived.Test.YtnfpmiiopiinbaaGreatDoorRipU
import Derived.Test.YtnfpmiiopiinbaaGreatDoorRipG
set_option linter.unusedVariables false
set_option linter.unusedSimpArgs false
set_option linter.loopingSimpArgs false
namespace Go.Rip
open Go.Proofs Go.RowKit
theorem yq {L : List AV} {o : Nat} {c : AV} (h : L[o]? = some c) (r : List AV) : ∃ r', (L ++ r).drop o = c :: r' := by
 have aJ := (dF.1 h).1
 rw [List.drop_append_of_le_length (by omega), gy aJ]
 have := (dF.1 h).2
 rw [this]
 exact ⟨_, rfl⟩
section
variable {U : St} {v : AV} {l : List Nd} {i o : Nat} {x : Nd} {c gv : AV} {k : AV -> Prop} {K' : AV -> St -> Prop} {Kp : AV -> St -> Prop}
theorem sW (h : gU U v l) (hx : l[i]? = some x) (hc : (bO x)[o]? = some c) (hk : K' c U) :
 (aF (some (43, 6)) none v (.int .i64 (i : Nat))).wp K U (fun p U => (ag (some o) p).wp K U (fun q U => (ao (some (false, 1)) q U).wp K U K' Kp) Kp) Kp := by
 have aJ := (dF.1 hx).1
 obtain ⟨r, hr⟩ := tz hx
 obtain ⟨r', qU⟩ := yq hc r
 rcases h with (⟨rfl, rfl⟩ | ⟨cp, rfl⟩) | ⟨b, rfl, hb⟩
 · simp at aJ
 · rw [wR, dR, hr]
   refine ⟨by omega, ?_⟩
   simp only [dA, ah, mg, qU, bM]
   exact hk
 · rw [Aq, dR, cr]
   refine ⟨⟨by omega, by omega, rfl⟩, ?_⟩
   simp only [aV, ah]
   rw [fz hb, <- List.drop_drop, hr, qU, bM]
   exact hk
theorem Ie (h : gU U v l) (hx : l[i]? = some x) (hc : (bO x)[o]? = some c) (hk : k c) :
 aw K (aF (some (43, 6)) none v (.int .i64 (i : Nat))) fun p => aw K (ag (some o) p) fun q => aw K (ao (some (false, 1)) q U) k := by
 have aJ := (dF.1 hx).1
 obtain ⟨r, hr⟩ := tz hx
 obtain ⟨r', qU⟩ := yq hc r
 rcases h with (⟨rfl, rfl⟩ | ⟨cp, rfl⟩) | ⟨b, rfl, hb⟩
 · simp at aJ
 · rw [We, dR, hr]
   refine ⟨by omega, ?_⟩
   simp only [dA, av, oF, qU, fM]
   exact hk
 · rw [zX, dR, cr]
   refine ⟨⟨by omega, by omega, rfl⟩, ?_⟩
   simp only [aV, av]
   rw [lX hb, <- List.drop_drop, hr, qU, fM]
   exact hk
theorem ij {r : au} (h : aw K r k) : ad K (.bool true) r k := by rw [aC, bl]; exact h
theorem Ok (h : gU U v l) (hx : l[i]? = some x) (hc : (bO x)[o]? = some c) (hk : k c) :
 ad K (.bool true) (aF (some (43, 6)) none v (.int .i64 (i : Nat))) fun p => ad K (.bool true) (ag (some o) p) fun q => ad K (.bool true) (ao (some (false, 1)) q U) k := by
 simp only [aC, bl]
 exact Ie h hx hc hk
theorem Qe (h : gU U v l) (hk : k (.int .i64 l.length)) : ad K (.bool true) (bz (some false) v) k := by
 rw [h.len]; exact hk
theorem dq {x : AV} (hk : k x) : ad K (.bool true) (.val x) k := hk
end
structure dZ (aG U : St) (v : AV) (e : TypeId) (sz n : Nat) (l : List AV) : Prop where
 g : Grow U v e sz n l
 z : n = 0 -> v = .al
 t : SV aG v
 ex : cL aG U
section
variable {aG U : St} {v y : AV} {e : TypeId} {sz n m : Nat} {l l2 : List AV} {K' : AV -> St -> Prop} {Kp : AV -> St -> Prop}
theorem dZ.nil (h : cL aG U) : dZ aG U .al e sz 0 [] := ⟨.inl ⟨rfl, rfl, rfl⟩, fun _ => rfl, (fun _ _ _ e => by cases e), h⟩
theorem dZ.mono {ae : St} (h : dZ aG U v e sz n l) (k : cL U ae) : dZ aG ae v e sz n l := by
 refine ⟨?_, h.z, h.t, h.ex.trans k⟩
 rcases h.g with g | ⟨τ, r1, r2, r3⟩
 · exact .inl g
 · exact .inr ⟨τ, r1, k.tok r2, r3⟩
theorem wQ (h : dZ aG U v e sz n l) (hy : pc U y = some (m, l2)) (hl : l2.length = m * sz) (hm : 0 < m) (hb : n + m <= 4294967296)
 (hk : ∀ ae v', dZ aG ae v' e sz (n + m) (l ++ l2) -> (∀ b x, (∀ n l, v ≠ .vec n (.own b) l) -> U.live b = some x -> ae.live b = some x) -> K' v' ae) : (dM (some (e, sz)) false v y U).wp K U K' Kp := by
 refine Iy h.g hy hl hm hb h.z fun ae v' g e1 n1 => hk ae v' ⟨g, fun hz => by omega, fun n' τ l' hv => ?_, fun b x hx => ?_⟩ e1
 · rcases n1 n' τ l' hv with hz | ⟨n2, l2', hx⟩
   · exact h.ex.fresh hz
   · exact h.t _ _ _ hx
 · exact e1 b x (fun n' l' hv => by rw [h.t _ _ _ hv] at hx; cases hx) (h.ex b x hx)
theorem dZ.sl (h : dZ aG U v e sz n l) : eh v n l := by
 rcases h.g with ⟨h1, h2, h3⟩ | ⟨τ, r1, _, _⟩
 · exact .inl ⟨h1, h2, h3⟩
 · exact .inr ⟨_, r1⟩
theorem RD {e : TypeId} {x : AV} {z : AV} (hx : x.cQ = true) (hc : ay x = [x]) (hk : K' (.vec 1 .full [x]) U) : (aO (some (e, 1)) (some [z]) 1 false [(0, x)]).wp K U K' Kp := by
 rw [fC]
 refine ⟨by omega, ?_⟩
 rw [eO (o := 0) (s := 1) rfl]
 refine ⟨⟨hx, by rw [hc]; rfl, by simp [bK]⟩, ?_⟩
 rw [gM, hc]
 exact ⟨rfl, hk⟩
end
def fR (ks : List Nat) : List AV := ks.map fun k => .int .i64 (k : Nat)
theorem JL (ks : List Nat) : (fR ks).length = ks.length := by simp [fR]
theorem uv {ks : List Nat} {i k : Nat} (h : ks[i]? = some k) : ∃ r, (fR ks).drop i = .int .i64 (k : Nat) :: r := by
 have aJ := (dF.1 h).1
 refine ⟨(fR ks).drop (i + 1), ?_⟩
 rw [gy (by simpa [fR] using aJ)]
 have := (dF.1 h).2
 simp [fR, this]
theorem wu (x : Nd) : (bO x)[5]? = some (.int .i64 x.size) := rfl
theorem HZ (x : Nd) : (bO x)[0]? = some (.int .u8 x.kind) := rfl
theorem DZ {U : St} {R : cD -> St -> Prop} {v : AV} {l : List Nd} {i : Nat} {t : Tre} (hv : gU U v l) (ht : eQ l i t) (hl : l.length <= 100000)
 (h : ∀ ae v', dZ U ae v' 3 1 t.kids.length (fR (bG (i + 1) t.kids)) -> R (.ret v') ae) : af K 67 [v, .int .i64 (i : Nat)] U R := by
 refine Pj ?_
 unfold Q2
 have hle := ht.le
 have qO := gK t
 rw [cg]
 refine ⟨aS (by omega) (by omega), ?_⟩
 obtain ⟨x, hx, _, BH, _⟩ := ht.lB
 refine ⟨fun m v0 v1 v5 v6 ae => ∃ (ks : List Nat) (rest : List Tre) (p : Nat), m = rest.length /\ v0 = v /\ v1 = .int .i64 (i : Nat) /\ v6 = .int .i64 (p : Nat) /\ dZ U ae v5 3 1 ks.length (fR ks) /\ jr l p rest /\ ks ++ bG p rest = bG (i + 1) t.kids /\ p + (Tre.bB rest).length = i + t.flat.length /\ ks.length + i < p,
  ⟨_, [], t.kids, i + 1, rfl, rfl, rfl, rfl, .nil (cL.refl _), ht.kids, rfl, by omega, by simp⟩, ?_⟩
 rintro m v0 v1 v5 v6 bJ ⟨ks, rest, p, rfl, rfl, rfl, rfl, hg, nB, iE, hp, vi⟩
 have JD := hv.pD hg.ex
 refine sW JD hx (wu x) ?_
 rw [cg, BH]
 refine ⟨aS (by omega) (by omega), ?_⟩
 simp only [bg, ah, aY]
 refine ⟨fun aJ => ?_, fun fJ => ?_⟩
 · cases rest with
   | nil => simp at hp; omega
   | cons s rest =>
     obtain ⟨y, hy, _, ZM, _⟩ := nB.head.lB
     have zE := s.cV
     have mX := nB.head.le
     refine RD rfl rfl ?_
     refine wQ hg (m := 1) (l2 := [.int .i64 (p : Nat)]) rfl rfl (by omega) (by omega) fun bP v' g2 k2 => ?_
     have BI := hv.pD g2.ex
     refine sW BI hy (wu y) ?_
     rw [cg, ZM]
     refine ⟨aS (by omega) (by omega), rest.length, by simp, ks ++ [p], rest, p + s.flat.length, rfl, rfl, rfl, by simp, by simpa [fR] using g2, nB.tail, by rw [<- iE]; simp [bG], by simp at hp; omega, by simp; omega⟩
 · cases rest with
   | cons s rest => have := s.cV; simp at hp; omega
   | nil =>
     simp only [bG, iy] at iE
     subst iE
     refine ak.mk (h _ _ ?_)
     have : (bG (i + 1) t.kids).length = t.kids.length := kZ _ _
     rw [<- this]; exact hg
theorem SD {U : St} {R : cD -> St -> Prop} {v : AV} {l : List Nd} (hv : gU U v l) (hl : l.length <= 100000)
 (hT : tU l -> R (.ret (.bool true)) U) (hF : ¬ tU l -> R (.ret (.bool false)) U) : af K 70 [v] U R := by
 refine Pn ?_
 unfold Q5
 simp only [hv.len, ah, aX, aI]
 cases lD : l with
 | nil =>
   subst lD
   simp only [o8, show decide (((0 : Nat) : Int) = 0) = true from rfl, show (true == false) = false from rfl, aC, a7, aA, if_true, ah, bf]
   exact ak.mk (hF fun h => h.1.1 rfl)
 | cons x0 r0 =>
   have bW : l ≠ [] := by rw [lD]; simp
   have hx0 : l[0]? = some x0 := by rw [lD]; rfl
   have rL : jT l = x0.size := by rw [lD]; rfl
   rw [<- lD]
   have Vj : 0 < l.length := List.length_pos_iff.2 bW
   have : ¬ ((l.length : Int) = 0) := by omega
   simp only [this, ct, dG]
   refine dq (Ok (i := 0) hv hx0 (wu x0) ?_)
   refine dq (Qe hv ?_)
   rw [cM]
   refine dq ?_
   simp only [aA, bo, if_false, ah]
   by_cases h0 : x0.size = l.length
   · simp only [h0, bT, ca, aW]
     refine ⟨fun m v0 v3 ae => ∃ i : Nat, m = l.length - i /\ v0 = v /\ v3 = .int .i64 (i : Nat) /\ ae = U /\ i <= l.length /\ ∀ j x, j < i -> l[j]? = some x -> 1 <= x.size /\ x.size <= (l.length : Int) - j, ⟨_, 0, rfl, rfl, rfl, rfl, by omega, fun j x h => by omega⟩, ?_⟩
     rintro m v0 v3 ae ⟨i, rfl, rfl, rfl, rfl, hi, hj⟩
     simp only [hv.len, ah, bg, aY]
     refine ⟨fun aJ => ?_, fun fJ => ?_⟩
     · have aJ : i < l.length := by omega
       obtain ⟨x, hx⟩ : ∃ x, l[i]? = some x := ⟨l[i], by simp [aJ]⟩
       refine sW hv hx (wu x) ?_
       rw [bg]
       simp only [ah, aI]
       by_cases h1 : x.size < 1
       · simp only [h1, bT, show (true == false) = false from rfl, aC, a7, aA, if_true, ah, bf]
         exact ak.mk (hF fun h => by have := (h.1.2.2 i x hx).1; omega)
       · simp only [h1, ct, dG]
         refine dq (dq (Ok hv hx (wu x) ?_))
         refine dq (Qe hv ?_)
         refine dq ?_
         rw [dU, dC]
         refine ij ⟨aS (by omega) (by omega), ?_⟩
         rw [av, dK]
         refine dq ?_
         simp only [aA, bo, if_false, ah, aY]
         refine ⟨fun h2 => ak.mk (hF fun h => by have := (h.1.2.2 i x hx).2; omega), fun h2 => ?_⟩
         rw [cg]
         refine ⟨aS (by omega) (by omega), l.length - (i + 1), by omega, i + 1, rfl, rfl, by simp, rfl, by omega, fun j y qR hy => ?_⟩
         rcases eM j i with h | h
         · exact hj j y h hy
         · have : j = i := by omega
           subst this; rw [hx] at hy; cases hy; omega
     · have hi : i = l.length := by omega
       subst hi
       have rM : sY l := ⟨bW, by rw [rL, h0], fun j x hx => hj j x (dF.1 hx).1 hx⟩
       clear hj fJ
       refine ⟨fun m w0 v4 bP => ∃ i : Nat, m = l.length - i /\ w0 = v0 /\ v4 = .int .i64 (i : Nat) /\ bP = ae /\ i <= l.length /\ ∀ (j : Nat) x, j < i -> l[j]? = some x -> mA l (j + x.size.toNat) l.length (j + 1) = j + x.size.toNat, ⟨_, 0, rfl, rfl, rfl, rfl, by omega, fun j x h => by omega⟩, ?_⟩
       rintro m w0 v4 bP ⟨i, rfl, rfl, rfl, rfl, hi, hj⟩
       simp only [hv.len, ah, bg, aY]
       refine ⟨fun aJ => ?_, fun fJ => ?_⟩
       · have aJ : i < l.length := by omega
         obtain ⟨x, hx⟩ : ∃ x, l[i]? = some x := ⟨l[i], by simp [aJ]⟩
         have BH := rM.2.2 i x hx
         rw [cg]
         refine ⟨aS (by omega) (by omega), ?_⟩
         refine ⟨fun m u0 v4 v5 cJ => ∃ p f : Nat, m = f /\ u0 = w0 /\ v4 = .int .i64 (i : Nat) /\ v5 = .int .i64 (p : Nat) /\ cJ = bP /\ p <= l.length /\ l.length - p <= f /\ mA l (i + x.size.toNat) f p = mA l (i + x.size.toNat) l.length (i + 1), ⟨_, i + 1, l.length, rfl, rfl, rfl, rfl, rfl, by omega, by omega, rfl⟩, ?_⟩
         rintro m u0 v4 v5 cJ ⟨p, f, rfl, rfl, rfl, rfl, rfl, hp, hf, hw⟩
         refine sW hv hx (wu x) ?_
         rw [cg]
         refine ⟨aS (by omega) (by omega), ?_⟩
         simp only [ah, bg, aY]
         refine ⟨fun oS => ?_, fun hpg => ?_⟩
         · have aaG : p < l.length := by omega
           obtain ⟨y, hy⟩ : ∃ y, l[p]? = some y := ⟨l[p], by simp [aaG]⟩
           have ZM := rM.2.2 p y hy
           refine sW hv hy (wu y) ?_
           rw [cg]
           refine ⟨aS (by omega) (by omega), ?_⟩
           cases m with
           | zero => omega
           | succ f =>
           rw [qs hy (by omega)] at hw
           exact ⟨f, by omega, p + y.size.toNat, f, rfl, rfl, rfl, by congr 1; omega, rfl, by omega, by omega, hw⟩
         · rw [qt (by omega)] at hw
           refine sW hv hx (wu x) ?_
           rw [cg]
           refine ⟨aS (by omega) (by omega), ?_⟩
           simp only [ah, cM]
           by_cases Vu : (p : Int) = i + x.size
           · simp only [Vu, bT, ca, aW]
             rw [cg]
             refine ⟨aS (by omega) (by omega), l.length - (i + 1), by omega, i + 1, rfl, rfl, by simp, rfl, by omega, fun j z qR hz => ?_⟩
             rcases eM j i with h | h
             · exact hj j z h hz
             · have : j = i := by omega
               subst this; rw [hx] at hz; cases hz
               rw [<- hw]; omega
           · simp only [Vu, ct, dt, bf]
             exact ak.mk (hF fun h => Vu (by have := h.2 i x hx; omega))
       · have hi : i = l.length := by omega
         subst hi
         exact ak.mk (hT ⟨rM, fun j x hx => hj j x (dF.1 hx).1 hx⟩)
   · simp only [h0, ct, dt, bf]
     exact ak.mk (hF fun h => h0 (by rw [<- rL]; exact h.1.2.1))
theorem JM {out : List Nat} {k x : Nat} (h : k < out.length) : aB (fR out) k (ay (.int .i64 ((x : Nat) : Int))) = fR (out.set k x) := by
 simp only [aB, Bq, fR, jL, o8]
 rw [List.map_set, List.set_eq_take_append_cons_drop, if_pos (by simpa using h)]
 simp
theorem YP {K' : AV -> Prop} {U : St} {v : AV} {ks : List Nat} {i k : Nat} (hv : eh v ks.length (fR ks)) (hk : ks[i]? = some k) (h : K' (.int .i64 (k : Nat))) :
 aw K (aF (some (3, 1)) none v (.int .i64 (i : Nat))) fun p => aw K (ao (some (false, 1)) p U) K' := by
 have aJ := (dF.1 hk).1
 obtain ⟨c, rfl, mD⟩ := hv.at (sz := 1) (e := 3) aJ
 obtain ⟨r, hr⟩ := uv hk
 rw [mD, Nat.mul_one, hr]
 exact ⟨by omega, h⟩
theorem Xc {K' : AV -> St -> Prop} {Kp : AV -> St -> Prop} {U : St} {v : AV} {ks : List Nat} {i k : Nat} (hv : eh v ks.length (fR ks)) (hk : ks[i]? = some k) (h : K' (.int .i64 (k : Nat)) U) :
 (aF (some (3, 1)) none v (.int .i64 (i : Nat))).wp K U (fun p U => (ao (some (false, 1)) p U).wp K U K' Kp) Kp := by
 have aJ := (dF.1 hk).1
 obtain ⟨c, rfl, mD⟩ := hv.at (sz := 1) (e := 3) aJ
 obtain ⟨r, hr⟩ := uv hk
 rw [mD, Nat.mul_one, hr]
 exact ⟨by omega, h⟩
theorem N5 {U : St} {R : cD -> St -> Prop} {v : AV} {t : Tre} (hv : gU U v t.flat) (hl : t.flat.length <= 60000)
 (h : ∀ b ae, U.live b = none -> ae.box b = some (fR (lN 0 t)) -> cL U ae -> R (.ret (.ms b 0 t.flat.length 1 3)) ae) : af K 73 [v] U R := by
 refine Pq ?_
 unfold Q8
 simp only [hv.len, ah, qi, if_true, wp_cond, mi]
 refine ⟨by simp only [true_and]; omega, fun b hb => ?_⟩
 have hDl := sv 0 t
 have hz : bK ((t.flat.length : Int)).toNat [AV.int .i64 0] = fR (List.replicate t.flat.length 0) := by
  rw [dR]
  simp only [fR, List.map_replicate]
  generalize t.flat.length = n
  induction n with
  | zero => rfl
  | succ n ih => rw [List.replicate_succ, <- ih]; rfl
 rw [hz]
 simp only [NV.at, dR]
 have eH : (U.new b (.box (fR (List.replicate t.flat.length 0)))).box b = some (fR (List.replicate t.flat.length 0)) := aN
 have e1 := bE hb (x := .box (fR (List.replicate t.flat.length 0)))
 have f1 := hb.1
 generalize U.new b (.box (fR (List.replicate t.flat.length 0))) = bJ at *
 let P (i j : Nat) : Prop := j = 0 \/ ∃ i' s', i' < i /\ eQ t.flat i' s' /\ j ∈ bG (i' + 1) s'.kids
 have hD0 : (lN 0 t)[0]? = some 0 := by cases t; simp [s8]
 refine ⟨fun m v0 v3 v4 ae => ∃ (i : Nat) (out : List Nat), m = t.flat.length - i /\ v0 = v /\ v3 = .ms b 0 t.flat.length 1 3 /\ v4 = .int .i64 (i : Nat) /\ i <= t.flat.length /\ ae.box b = some (fR out) /\ out.length = t.flat.length /\ cL U ae /\ ∀ j, j < t.flat.length -> P i j -> out[j]? = (lN 0 t)[j]?,
  ⟨_, 0, List.replicate t.flat.length 0, rfl, rfl, rfl, rfl, by omega, eH, by simp, e1, fun j hj hp => ?_⟩, ?_⟩
 · rcases hp with rfl | ⟨i', _, iu, _⟩
   · rw [hD0]; simp [hj]
   · omega
 clear eH e1
 rintro m w v3 v4 bP ⟨i, out, rfl, rfl, rfl, rfl, hi, pZ, DA, e2, hP⟩
 have BI := hv.pD e2
 simp only [BI.len, ah, bg, aY]
 refine ⟨fun aJ => ?_, fun fJ => ?_⟩
 · have aJ : i < t.flat.length := by omega
   obtain ⟨⟨s, e, hs, hDe, Za, hei⟩, aaF⟩ := place t aJ
   have Dz : out[i]? = some e := by
    rw [hP i aJ ?_, hDe]
    rcases aaF with h | ⟨i', s', h1, h2, h3⟩
    · exact .inl h
    · exact .inr ⟨i', s', h1, h2, h3⟩
   have mX := hs.le
   have hkk := Tre.nV s.kids
   have hsf := gK s
   refine DZ BI hs (by omega) fun cJ v5 g3 => ?_
   have vi : (bG (i + 1) s.kids).length = s.kids.length := kZ _ _
   have ZP : eh v5 (bG (i + 1) s.kids).length (fR (bG (i + 1) s.kids)) := by rw [vi]; exact g3.sl
   have Vx : ∀ k ∈ bG (i + 1) s.kids, i < k /\ k < t.flat.length := by
    have : ∀ (ts : List Tre) (p : Nat), jr t.flat p ts -> ∀ k ∈ bG p ts, p <= k /\ k < t.flat.length := by
     intro ts
     induction ts with
     | nil => intro p _ k hk; simp [bG] at hk
     | cons u ts ih =>
       intro p nB k hk
       simp only [bG, dS] at hk
       rcases hk with rfl | hk
       · have := nB.head.le; have := u.cV; omega
       · have := ih _ nB.tail k hk; omega
    intro k hk
    have := this _ _ hs.kids k hk
    omega
   simp only [bA]
   generalize iE : bG (i + 1) s.kids = ks at *
   have e3 := e2.trans g3.ex
   have UU := g3.ex.bj pZ
   refine ⟨fun m w0 w3 w4 w5 w6 ae => ∃ (q : Nat) (uE : List Nat), m = ks.length - q /\ w0 = w /\ w3 = .ms b 0 t.flat.length 1 3 /\ w4 = .int .i64 (i : Nat) /\ w5 = v5 /\ w6 = .int .i64 (q : Nat) /\ q <= ks.length /\ ae.box b = some (fR uE) /\ uE.length = t.flat.length /\ cL U ae /\ uE[i]? = some e /\ (∀ j, j < t.flat.length -> P i j -> uE[j]? = (lN 0 t)[j]?) /\ ∀ q' j, q' < q -> ks[q']? = some j -> uE[j]? = some (e + 1),
    ⟨_, 0, out, rfl, rfl, rfl, rfl, rfl, rfl, by omega, UU, DA, e3, Dz, hP, fun q' j h => by omega⟩, ?_⟩
   clear UU e3 pZ hP Dz DA
   rintro m w0 w3 w4 w5 w6 cu ⟨q, uE, rfl, rfl, rfl, rfl, rfl, rfl, hq, pZ, DA, e4, Dz, hP, hQ⟩
   have Yl : bz (some false) w5 = .val (.int .i64 ks.length) := ZP.len
   simp only [Yl, ah, bg, aY]
   refine ⟨fun sB => ?_, fun aax => ?_⟩
   · have sB : q < ks.length := by omega
     obtain ⟨fX, yw⟩ : ∃ fX, ks[q]? = some fX := ⟨ks[q], by simp [sB]⟩
     have Zx := Vx fX (fO yw)
     refine YP ZP yw ?_
     rw [zX]
     refine ⟨⟨by omega, by omega, rfl⟩, ?_⟩
     obtain ⟨r, hr⟩ := uv Dz
     rw [lX pZ, dR, Nat.mul_one, cr, hr, fM, sa]
     refine ⟨aS (by omega) (by omega), ?_⟩
     rw [zX]
     refine ⟨⟨by omega, by omega, rfl⟩, ?_⟩
     rw [dR, Nat.mul_one, cr, cI pZ]
     refine ⟨⟨rfl, rfl, by rw [JL]; omega⟩, ?_⟩
     have um := JM (out := uE) (k := fX) (x := e + 1) (by omega)
     rw [show (((e + 1 : Nat) : Int)) = (e : Int) + 1 by omega] at um
     rw [um, cg]
     refine ⟨aS (by omega) (by omega), ks.length - (q + 1), by omega, q + 1, uE.set fX (e + 1), rfl, rfl, rfl, rfl, rfl, by simp, sB, aT, by simpa using DA, e4.set f1, ?_, fun j hj hp => ?_, fun q' j Qy hj => ?_⟩
     · rw [List.getElem?_set_ne (by omega)]; exact Dz
     · by_cases xQ : fX = j
       · subst xQ
         rw [List.getElem?_set_self (by omega)]
         exact (Za.bG fX (by rw [iE]; exact fO yw)).symm
       · rw [List.getElem?_set_ne xQ]; exact hP j hj hp
     · by_cases xQ : fX = j
       · subst xQ
         rw [List.getElem?_set_self (by omega)]
       · rw [List.getElem?_set_ne xQ]
         rcases eM q' q with h | h
         · exact hQ q' j h hj
         · have : q' = q := by omega
           subst this; rw [yw] at hj; cases hj; exact absurd rfl xQ
   · have hq : q = ks.length := by omega
     subst hq
     rw [cg]
     refine ⟨aS (by omega) (by omega), t.flat.length - (i + 1), by omega, i + 1, uE, rfl, rfl, rfl, by simp, aJ, pZ, DA, e4, fun j hj hp => ?_⟩
     rcases hp with hp | ⟨i', s', h1, h2, h3⟩
     · exact hP j hj (.inl hp)
     · rcases eM i' i with h | h
       · exact hP j hj (.inr ⟨i', s', h, h2, h3⟩)
       · have : i' = i := by omega
         subst this
         have := h2.inj hs
         subst this
         have hm : j ∈ ks := by rw [<- iE]; exact h3
         obtain ⟨q', Qy, DD⟩ := List.getElem_of_mem hm
         rw [hQ q' j Qy (by rw [<- DD]; simp)]
         exact (Za.bG j h3).symm
 · have hi : i = t.flat.length := by omega
   subst hi
   have : out = lN 0 t := by
    refine List.ext_getElem? fun j => ?_
    rcases eM j t.flat.length with hj | hj
    · refine hP j hj ?_
      rcases (place t hj).2 with h | ⟨i', s', h1, h2, h3⟩
      · exact .inl h
      · exact .inr ⟨i', s', by omega, h2, h3⟩
    · rw [mN (by omega), mN (by omega)]
   subst this
   exact ak.mk (h b bP f1 pZ e2)
end Go.Rip
namespace Go.Rip
open Go.Proofs Go.RowKit
theorem zl {c : Prop} [Decidable c] {x : AV} {f : AV -> au} {q : Bool} {U : St} {K' : AV -> St -> Prop} {Kp : AV -> St -> Prop} (hf : c -> f x = .val (.bool q)) (hk : K' (.bool (decide c && q)) U) :
 ad K (ar (.bool (decide c)) true) (au.val x) fun v6 => ad K (ar (.bool (decide c)) true) (f v6) fun v7 => (aQ (.bool (decide c)) v7 (.bool false)).wp K U K' Kp := by
 by_cases hc : c
 · simp only [hc, bT, aI, dG, aC, bl, av, hf hc, aA, if_true, ah]
   simpa [hc] using hk
 · simp only [hc, ct, aI, show (false == true) = false from rfl, aC, a7, aA, bo, if_false, ah]
   simpa [hc] using hk
theorem sw {p : Bool} {x : AV} {f : AV -> au} {q : Bool} {U : St} {K' : AV -> St -> Prop} {Kp : AV -> St -> Prop} (hf : p = false -> f x = .val (.bool q)) (hk : K' (.bool (p || q)) U) :
 ad K (ar (.bool p) false) (au.val x) fun v6 => ad K (ar (.bool p) false) (f v6) fun v7 => (aQ (.bool p) (.bool true) v7).wp K U K' Kp := by
 cases p with
 | true =>
   simp only [aI, show (true == false) = false from rfl, aC, a7, aA, if_true, ah]
   simpa using hk
 | false =>
   simp only [aI, dG, aC, bl, av, hf rfl, aA, bo, if_false, ah]
   simpa using hk
theorem pv (k : Int) : Pure K 141 [.int .u8 k] (.bool (j5 k)) := by
 intro U R hR
 refine Ln ?_
 unfold Lm
 rw [aX, ah]
 refine sw (fun _ => aX ..) (ak.eq hR ?_)
 simp only [j5, AV.bool.injEq]; grind
theorem lq (k : Int) : Pure K 142 [.int .u8 k] (.bool (fH k)) := by
 intro U R hR
 refine Lp ?_
 unfold Lo
 rw [dT, ah]
 refine zl (fun _ => fm ..) (ak.eq hR ?_)
 simp only [fH, AV.bool.injEq]; grind
theorem Fy (k : Int) : Pure K 191 [.int .u8 k] (.bool (o0 k)) := by
 intro U R hR
 refine Mq ?_
 unfold Mp
 rw [dT, ah]
 refine zl (fun _ => fm ..) (ak.eq hR ?_)
 simp only [o0, AV.bool.injEq]; grind
theorem FA (k : Int) : Pure K 139 [.int .u8 k] (.bool (qz k)) := by
 intro U R hR
 refine Lj ?_
 unfold Li
 refine (pv k).go ?_
 refine sw (fun _ => aX ..) (ak.eq hR ?_)
 simp only [j5, qz, AV.bool.injEq]; grind
def pr (k : Int) : Bool := decide (k = 6 \/ k = 7 \/ k = 12 \/ k = 14 \/ k = 25 \/ k = 26)
theorem vW (k : Int) : Pure K 136 [.int .u8 k] (.bool (pr k)) := by
 intro U R hR
 refine Lc ?_
 unfold Lb
 refine (pv k).go ?_
 refine sw (fun _ => aX ..) ?_
 refine sw (fun _ => aX ..) ?_
 refine sw (fun _ => aX ..) ?_
 refine sw (fun _ => aX ..) (ak.eq hR ?_)
 simp only [j5, pr, AV.bool.injEq]; grind
theorem zK (n : Int) : Pure K 137 [.int .i64 n] (.bool (hZ n)) := by
 intro U R hR
 refine Lf ?_
 unfold Ld
 rw [dT, ah]
 refine zl (fun _ => fm ..) (ak.eq hR ?_)
 simp only [hZ, AV.bool.injEq]; grind
def jm (k : Int) : Bool := decide (k = 2 \/ k = 3 \/ k = 4 \/ k = 5 \/ k = 12 \/ k = 13 \/ k = 14 \/ k = 16 \/ k = 31 \/ k = 32 \/ k = 33 \/ k = 34 \/ k = 37)
theorem Ji (k : Int) : Pure K 134 [.int .u8 k] (.bool (jm k)) := by
 intro U R hR
 refine K8 ?_
 unfold K7
 intro j hj
 simp only [aX, ah, aY]
 have yes : jm k = true -> ∀ b, b = true -> j (.bool b) U := fun h b hb => by
  subst hb
  refine hj _ _ ?_
  simp only [bf]
  rw [h] at hR; exact ak.mk hR
 have no : jm k = false -> ∀ b, b = false -> j (.bool b) U := fun h b hb => by
  subst hb
  refine hj _ _ ?_
  simp only [aW]
  rw [h] at hR; exact ak.mk hR
 iterate 12
  refine ⟨fun h => yes (by simp only [jm, c7]; omega) _ (by simpa using h), fun _ => ?_⟩
 by_cases h : k = 37
 · exact yes (by simp only [jm, c7]; omega) _ (by simpa using h)
 · exact no (by simp only [jm, decide_eq_false_iff_not]; omega) _ (by simpa using h)
theorem DW (n : Nat) (s : bh) (a : Int) (hs : s.length <= 100000) : Pure K 211 [.agg [.int .u8 n, .str s, .int .i64 a]] (.bool (decide (s ≠ [] /\ fQ s = (0, n, s)))) := by
 refine Pure.of rfl rfl (fun U => rfl) fun R hR => ?_
 refine MA ?_
 unfold Mz
 rw [ff rfl]
 intro b1 eH
 have m1 : ((bD ⟨.e, 0⟩).new b1 (.box (ay (.agg [.int .u8 n, .str s, .int .i64 a])))).box b1 = some [.int .u8 n, .str s, .int .i64 a] := aN
 generalize (bD _).new b1 _ = aG at *
 clear eH
 simp only [aV, ah, cr]
 rw [fz m1]
 simp only [List.drop, bM, iB, ah, aY, aV, cr]
 refine ⟨fun h0 => ?_, fun h0 => ?_⟩
 · have h0 : s = [] := h0
   refine ak.eq (hR _) ?_
   simp [h0]
 · have h0 : s ≠ [] := h0
   rw [fz m1]
   simp only [List.drop, bM]
   refine (KG s 0 (by omega) hs).go ?_
   rw [ez]
   have key : ∀ (c1 : List AV) (e : Int), py (fQ s) 0 = .aR [.agg c1, .int .i64 e] -> c1.length = 3 -> (∃ (k2 : Nat) (t2 : bh) (a2 : Int), c1 = [.int .u8 k2, .str t2, .int .i64 a2] /\ (decide (s ≠ [] /\ fQ s = (0, n, s)) = (decide (e = 0) && (decide ((k2 : Int) = n) && decide (t2 = s))))) ->
    (bq (.aR [.agg c1, .int .i64 e]) 0).wp K aG (fun v12 U =>
   (bq (.aR [.agg c1, .int .i64 e]) 1).wp K U (fun bI U =>
   (au.cq [AV.int .u8 0, AV.str [], AV.int .i64 0]).wp K U (fun v3 U =>
   (aL (some (true, 3)) v3 v12 U).wp K U (fun _ U =>
   (aj .eql (BT.mk false false false none false) true bI (AV.int .i64 0)).wp K U (fun bH U =>
   ad K (ar bH true) (ag (some 0) v3) (fun cA =>
   ad K (ar bH true) (ao (some (false, 1)) cA U) (fun bZ =>
   ad K (ar bH true) (ag (some 0) (.box b1 0)) (fun cH =>
   ad K (ar bH true) (ao (some (false, 1)) cH U) (fun v20 =>
   ad K (ar bH true) (aj .eql (BT.mk false false false none false) false bZ v20) (fun v21 =>
   (aQ bH v21 (AV.bool false)).wp K U (fun cm U =>
   ad K (ar cm true) (ag (some 1) v3) (fun v24 =>
   ad K (ar cm true) (ao (some (false, 1)) v24 U) (fun dO =>
   ad K (ar cm true) (ag (some 1) (.box b1 0)) (fun dE =>
   ad K (ar cm true) (ao (some (false, 1)) dE U) (fun di =>
   ad K (ar cm true) (aj .eql (BT.mk false false false none false) false dO di) (fun v28 =>
   (aQ cm v28 (AV.bool false)).wp K U (fun cC U =>
   ak R cC U) (aa R))))))) (aa R))))))) (aa R)) (aa R)) (aa R)) (aa R)) (aa R) := by
    rintro c1 e - xL ⟨k2, t2, a2, rfl, hd⟩
    simp only [cz, List.drop, bM]
    rw [cN]
    intro b3 iD
    have n31 := iD.cx m1
    have m3 : (aG.new b3 (.box [AV.int .u8 0, AV.str [], AV.int .i64 0])).box b3 = some [AV.int .u8 0, AV.str [], AV.int .i64 0] := aN
    have J5 := (bE iD (x := .box [AV.int .u8 0, AV.str [], AV.int .i64 0])).bj m1
    generalize aG.new b3 (.box [AV.int .u8 0, AV.str [], AV.int .i64 0]) = bJ at *
    rw [cI m3]
    refine ⟨⟨rfl, rfl, by simp⟩, ?_⟩
    have g3 : (bJ.set b3 (.box (aB [AV.int .u8 0, AV.str [], AV.int .i64 0] 0 (ay (.agg [.int .u8 k2, .str t2, .int .i64 a2]))))).box b3 = some [.int .u8 k2, .str t2, .int .i64 a2] := by rw [aT]; rfl
    have g1 : (bJ.set b3 (.box (aB [AV.int .u8 0, AV.str [], AV.int .i64 0] 0 (ay (.agg [.int .u8 k2, .str t2, .int .i64 a2]))))).box b1 = some [.int .u8 n, .str s, .int .i64 a] := by rw [aP n31]; exact J5
    generalize bJ.set b3 (.box (aB [AV.int .u8 0, AV.str [], AV.int .i64 0] 0 (ay (.agg [.int .u8 k2, .str t2, .int .i64 a2])))) = bP at *
    simp only [aX, ah]
    rw [hd] at hR
    by_cases he : e = 0
    · simp only [he, bT, aI, dG, aC, bl, aV, av, cr, lX g3, lX g1, List.drop, fM, aX, aA, if_true, ah]
      by_cases hk : (k2 : Int) = n
      · simp only [hk, bT, aI, dG, aC, bl, aV, av, cr, lX g3, lX g1, List.drop, fM, iB, aA, if_true, ah]
        refine ak.eq (hR _) ?_
        simp [he, hk]
      · simp only [hk, ct, aI, show (false == true) = false from rfl, aC, a7, aA, bo, if_false, ah]
        refine ak.eq (hR _) ?_
        simp [he, hk]
    · simp only [he, ct, aI, show (false == true) = false from rfl, aC, a7, aA, bo, if_false, ah]
      refine ak.eq (hR _) ?_
      simp [he]
   obtain ⟨⟨e, k2, t2⟩, ht⟩ : ∃ p, fQ s = p := ⟨_, rfl⟩
   rw [ht]
   unfold py
   by_cases he : e = 0
   · rw [if_pos he]
     refine key _ _ ?_ rfl ⟨k2, t2, _, rfl, ?_⟩
     · unfold py; rw [ht, if_pos he]
     · have e3 : ((k2 : Int) = (n : Int)) = (k2 = n) := by simp; omega
       simp only [ht, jM, he, e3]; simp [h0]
   · rw [if_neg he]
     refine key _ _ ?_ rfl ⟨0, [], 0, rfl, ?_⟩
     · unfold py; rw [ht, if_neg he]
     · rw [ht]; simp [he]
theorem Fz (s : bh) (hs : s.length <= 100000) : Pure K 135 [.str s] (.bool (iZ s)) := by
 intro U R hR
 refine La ?_
 unfold K9
 refine oQ [.int .u8 1, .str s, .int .i64 0] rfl ?_
 refine (DW 1 s 0 hs).go ?_
 refine ak.eq hR ?_
 unfold iZ
 have : fQ s = (0, 1, s) -> s ≠ [] := fun h e => by subst e; revert h; decide
 rw [AV.bool.injEq, decide_eq_decide]
 exact ⟨fun h => h.2, fun h => ⟨this h, h⟩⟩
end Go.Rip
namespace Go.Rip
open Go.Proofs Go.RowKit
def eL (ks : List Int) : List AV := ks.map (.int .u8)
theorem AQ {ks : List Int} {i : Nat} {k : Int} (h : ks[i]? = some k) : ∃ r, (eL ks).drop i = .int .u8 k :: r := by
 have aJ := (dF.1 h).1
 refine ⟨(eL ks).drop (i + 1), ?_⟩
 rw [gy (by simpa [eL] using aJ)]
 have := (dF.1 h).2
 simp [eL, this]
section
variable {U : St} {v : AV} {ks : List Int} {i : Nat} {k : Int} {e : Nat} {K' : AV -> St -> Prop} {Kp : AV -> St -> Prop} {kq : AV -> Prop}
theorem P7 (hv : eh v ks.length (eL ks)) (hk : ks[i]? = some k) (h : K' (.int .u8 k) U) :
 (aF (some (e, 1)) none v (.int .i64 (i : Nat))).wp K U (fun p U => (ao (some (false, 1)) p U).wp K U K' Kp) Kp := by
 have aJ := (dF.1 hk).1
 obtain ⟨c, rfl, mD⟩ := hv.at (sz := 1) (e := e) aJ
 obtain ⟨r, hr⟩ := AQ hk
 rw [mD, Nat.mul_one, hr]
 exact ⟨by omega, h⟩
theorem De (hv : eh v ks.length (eL ks)) (hk : ks[i]? = some k) (h : kq (.int .u8 k)) :
 ad K (.bool true) (aF (some (e, 1)) none v (.int .i64 (i : Nat))) fun p => ad K (.bool true) (ao (some (false, 1)) p U) kq := by
 have aJ := (dF.1 hk).1
 obtain ⟨c, rfl, mD⟩ := hv.at (sz := 1) (e := e) aJ
 obtain ⟨r, hr⟩ := AQ hk
 rw [mD, Nat.mul_one, hr]
 exact ij ⟨by omega, ij h⟩
theorem qx {f : FuncId} {args : List AV} {x : AV} (h : Pure K f args x) (hk : kq x) : ad K (.bool true) (au.enter f args) kq := ij ⟨x, h, hk⟩
end
theorem Aw {f : FuncId} {p : Int -> Bool} {U : St} {R : cD -> St -> Prop} {v : AV} {ks : List Int} (hv : eh v ks.length (eL ks)) (hl : ks.length <= 100000) (hp : ∀ k, Pure K f [.int .u8 k] (.bool (p k))) (h : R (.ret (.bool (ks.all p))) U) :
 cK 2 [v, (AV.int .i64 0)] U fun lp v0 v3 U =>
 (bz (some false) v0).wp K U (fun v6 U =>
 (aj .lss (BT.mk false false false none false) false v3 v6).wp K U (fun v7 U =>
 aq v7 (
  (aF (some (5, 1)) none v0 v3).wp K U (fun v12 U =>
  (ao (some (false, 1)) v12 U).wp K U (fun bI U =>
  af K f [bI] U (ax (fun bS U =>
  (fF .not bS).wp K U (fun bH U =>
  aq bH (
   ak R (AV.bool false) U) (
   (aj .add (BT.mk false false false none false) true v3 (AV.int .i64 1)).wp K U (fun v9 U =>
   lp v0 v9 U) (aa R))) (aa R)) (aa R))) (aa R)) (aa R)) (
  ak R (AV.bool true) U)) (aa R)) (aa R) := by
 refine ⟨fun m v0 v3 ae => ∃ i : Nat, m = ks.length - i /\ i <= ks.length /\ v0 = v /\ v3 = .int .i64 (i : Nat) /\ ae = U /\ (ks.take i).all p = true, ⟨_, 0, rfl, by omega, rfl, rfl, rfl, by simp⟩, ?_⟩
 rintro m v0 v3 ae ⟨i, rfl, hi, rfl, rfl, rfl, bm⟩
 have hlen : bz (some false) v0 = .val (.int .i64 ks.length) := hv.len
 simp only [hlen, bg, ah, aY]
 refine ⟨fun aJ => ?_, fun fJ => ?_⟩
 · have aJ : i < ks.length := by omega
   have hx : ks[i]? = some ks[i] := by simp [aJ]
   refine P7 hv hx ((hp _).go ?_)
   simp only [c8, ah]
   cases tj : p ks[i] with
   | true =>
     simp only [ca, aW, cg]
     refine ⟨aS (by omega) (by omega), ks.length - (i + 1), by omega, i + 1, rfl, by omega, rfl, by simp, rfl, ?_⟩
     rw [nH, hx, List.all_append, bm]; simp [tj]
   | false =>
     simp only [dt, bf]
     have : ks.all p = false := by
      cases hb : ks.all p with
      | false => rfl
      | true => rw [ef] at hb; rw [hb _ (pU aJ)] at tj; cases tj
     rw [this] at h; exact ak.mk h
 · have hi : i = ks.length := by omega
   subst hi
   rw [oI] at bm
   rw [bm] at h; exact ak.mk h
section
variable {v : AV} {ks : List Int}
theorem CS (hv : eh v ks.length (eL ks)) (hl : ks.length <= 100000) : Pure K 138 [v] (.bool (ks.all o0)) := fun U R hR => by
 refine Lh ?_; unfold Lg; exact Aw hv hl Fy hR
theorem CR (hv : eh v ks.length (eL ks)) (hl : ks.length <= 100000) : Pure K 143 [v] (.bool (ks.all j5)) := fun U R hR => by
 refine Lr ?_; unfold Lq; exact Aw hv hl pv hR
theorem oh (hv : eh v ks.length (eL ks)) (hl : ks.length <= 100000) : Pure K 144 [v] (.bool (ks.all fH)) := fun U R hR => by
 refine Lt ?_; unfold Ls; exact Aw hv hl lq hR
theorem G2 (hv : eh v ks.length (eL ks)) (hl : ks.length <= 100000) (c : Int) : Pure K 140 [v, .int .u8 c] (.bool (ks.all fun k => decide (k = c))) := fun U R h => by
 refine Ll ?_
 unfold Lk
 refine ⟨fun m v0 v1 v3 ae => ∃ i : Nat, m = ks.length - i /\ i <= ks.length /\ v0 = v /\ v1 = .int .u8 c /\ v3 = .int .i64 (i : Nat) /\ ae = U /\ (ks.take i).all (fun k => decide (k = c)) = true, ⟨_, 0, rfl, by omega, rfl, rfl, rfl, rfl, by simp⟩, ?_⟩
 rintro m v0 v1 v3 ae ⟨i, rfl, hi, rfl, rfl, rfl, rfl, bm⟩
 have hlen : bz (some false) v0 = .val (.int .i64 ks.length) := hv.len
 simp only [hlen, bg, ah, aY]
 refine ⟨fun aJ => ?_, fun fJ => ?_⟩
 · have aJ : i < ks.length := by omega
   have hx : ks[i]? = some ks[i] := by simp [aJ]
   refine P7 hv hx ?_
   rw [cM, ah]
   by_cases tj : ks[i] = c
   · simp only [tj, bT, ca, aW, cg]
     refine ⟨aS (by omega) (by omega), ks.length - (i + 1), by omega, i + 1, rfl, by omega, rfl, rfl, by simp, rfl, ?_⟩
     rw [nH, hx, List.all_append, bm]; simp [tj]
   · simp only [tj, ct, dt, bf]
     have : ks.all (fun k => decide (k = c)) = false := by
      cases hb : ks.all (fun k => decide (k = c)) with
      | false => rfl
      | true => rw [ef] at hb; exact absurd (of_decide_eq_true (hb _ (pU aJ))) tj
     rw [this] at h; exact ak.mk h
 · have hi : i = ks.length := by omega
   subst hi
   rw [oI] at bm
   rw [bm] at h; exact ak.mk h
theorem E8 (hv : eh v ks.length (eL ks)) (hl : ks.length <= 100000) : Pure K 145 [v] (.bool (ks.all j0)) := fun U R h => by
 refine Lv ?_
 unfold Lu
 refine ⟨fun m v0 v3 ae => ∃ i : Nat, m = ks.length - i /\ i <= ks.length /\ v0 = v /\ v3 = .int .i64 (i : Nat) /\ ae = U /\ (ks.take i).all j0 = true, ⟨_, 0, rfl, by omega, rfl, rfl, rfl, by simp⟩, ?_⟩
 rintro m v0 v3 ae ⟨i, rfl, hi, rfl, rfl, rfl, bm⟩
 have hlen : bz (some false) v0 = .val (.int .i64 ks.length) := hv.len
 simp only [hlen, bg, ah, aY]
 refine ⟨fun aJ => ?_, fun fJ => ?_⟩
 · have aJ : i < ks.length := by omega
   have hx : ks[i]? = some ks[i] := by simp [aJ]
   have Om : j0 ks[i] = true -> (aj .add (BT.mk false false false none false) true (.int .i64 (i : Nat)) (AV.int .i64 1)).wp K ae (fun v9 U => (∃ m', m' < ks.length - i /\ ∃ QD : Nat, m' = ks.length - QD /\ QD <= ks.length /\ v0 = v0 /\ v9 = .int .i64 (QD : Nat) /\ U = ae /\ (ks.take QD).all j0 = true)) (aa R) := fun tj => by
    rw [cg]
    refine ⟨aS (by omega) (by omega), ks.length - (i + 1), by omega, i + 1, rfl, by omega, rfl, by simp, rfl, ?_⟩
    rw [nH, hx, List.all_append, bm]; simp [tj]
   have bad : j0 ks[i] = false -> ak R (AV.bool false) ae := fun tj => by
    have : ks.all j0 = false := by
     cases hb : ks.all j0 with
     | false => rfl
     | true => rw [ef] at hb; rw [hb _ (pU aJ)] at tj; cases tj
    rw [this] at h; exact ak.mk h
   refine P7 hv hx ((lq _).go ?_)
   simp only [c8, ah]
   cases ht : fH ks[i] with
   | true =>
     simp only [ca, aI, show (false == true) = false from rfl, aC, a7, aA, bo, if_false, ah, aW]
     exact Om (by simp only [fH, j0, c7] at ht ⊢; omega)
   | false =>
     simp only [dt, aI, dG]
     refine dq (dq (De hv hx ?_))
     rw [cM]
     refine dq ?_
     simp only [aA, if_true, ah]
     by_cases h5 : ks[i] = 35
     · simp only [h5, bT, ca, aI, show (false == true) = false from rfl, aC, a7, aA, bo, if_false, ah, aW]
       exact Om (by rw [h5]; rfl)
     · simp only [h5, ct, dt, aI, dG]
       refine dq (dq (De hv hx ?_))
       rw [cM]
       refine dq ?_
       simp only [aA, if_true, ah]
       by_cases h6 : ks[i] = 36
       · simp only [h6, bT, ca, aW]
         exact Om (by rw [h6]; rfl)
       · simp only [h6, ct, dt, bf]
         exact bad (by simp only [fH, j0, decide_eq_false_iff_not] at ht ⊢; omega)
 · have hi : i = ks.length := by omega
   subst hi
   rw [oI] at bm
   rw [bm] at h; exact ak.mk h
end
end Go.Rip
