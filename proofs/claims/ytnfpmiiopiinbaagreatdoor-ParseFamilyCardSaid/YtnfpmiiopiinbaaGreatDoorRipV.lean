/- Lemmas for the proof: no conditions. -/
import Derived.Test.YtnfpmiiopiinbaaGreatDoorRipZz
import Derived.Test.YtnfpmiiopiinbaaGreatDoorRipS
import Derived.Test.YtnfpmiiopiinbaaGreatDoorRipK
import Derived.Test.YtnfpmiiopiinbaaGreatDoorRipF
import Derived.Test.YtnfpmiiopiinbaaGreatDoorRipU
import Derived.Test.YtnfpmiiopiinbaaGreatDoorRipG
set_option linter.unusedVariables false
set_option linter.unusedSimpArgs false
set_option linter.loopingSimpArgs false
namespace Go.Rip
open Go.Proofs Go.RowKit
theorem xM {L : List AV} {o : Nat} {c : AV} (h : L[o]? = some c) (r : List AV) : ∃ r', (L ++ r).drop o = c :: r' := by
 have aJ := (dy.1 h).1
 rw [List.drop_append_of_le_length (by omega), gp aJ]
 have := (dy.1 h).2
 rw [this]
 exact ⟨_, rfl⟩
section
variable {U : St} {v : AV} {l : List Nd} {i o : Nat} {x : Nd} {c gv : AV} {k : AV -> Prop} {K' : AV -> St -> Prop} {Kp : AV -> St -> Prop}
theorem si (h : hU U v l) (hx : l[i]? = some x) (hc : (cM x)[o]? = some c) (hk : K' c U) :
 (aF (some (43, 6)) none v (.int .i64 (i : Nat))).wp K U (fun p U => (ah (some o) p).wp K U (fun q U => (ao (some (false, 1)) q U).wp K U K' Kp) Kp) Kp := by
 have aJ := (dy.1 hx).1
 obtain ⟨r, hr⟩ := wx hx
 obtain ⟨r', qm⟩ := xM hc r
 rcases h with (⟨rfl, rfl⟩ | ⟨cp, rfl⟩) | ⟨b, rfl, hb⟩
 · simp at aJ
 · rw [AG, dC, hr]
   refine ⟨by omega, ?_⟩
   simp only [cQ, ai, og, qm, bB]
   exact hk
 · rw [zJ, dC, cq]
   refine ⟨⟨by omega, by omega, rfl⟩, ?_⟩
   simp only [aV, ai]
   rw [fh hb, <- List.drop_drop, hr, qm, bB]
   exact hk
theorem N3 (h : hU U v l) (hx : l[i]? = some x) (hc : (cM x)[o]? = some c) (hk : k c) :
 az K (aF (some (43, 6)) none v (.int .i64 (i : Nat))) fun p => az K (ah (some o) p) fun q => az K (ao (some (false, 1)) q U) k := by
 have aJ := (dy.1 hx).1
 obtain ⟨r, hr⟩ := wx hx
 obtain ⟨r', qm⟩ := xM hc r
 rcases h with (⟨rfl, rfl⟩ | ⟨cp, rfl⟩) | ⟨b, rfl, hb⟩
 · simp at aJ
 · rw [VJ, dC, hr]
   refine ⟨by omega, ?_⟩
   simp only [cQ, au, kJ, qm, eQ]
   exact hk
 · rw [B2, dC, cq]
   refine ⟨⟨by omega, by omega, rfl⟩, ?_⟩
   simp only [aV, au]
   rw [lD hb, <- List.drop_drop, hr, qm, eQ]
   exact hk
theorem gT {r : av} (h : az K r k) : ad K (.bool true) r k := by rw [aB, bl]; exact h
theorem Nr (h : hU U v l) (hx : l[i]? = some x) (hc : (cM x)[o]? = some c) (hk : k c) :
 ad K (.bool true) (aF (some (43, 6)) none v (.int .i64 (i : Nat))) fun p => ad K (.bool true) (ah (some o) p) fun q => ad K (.bool true) (ao (some (false, 1)) q U) k := by
 simp only [aB, bl]
 exact N3 h hx hc hk
theorem Px (h : hU U v l) (hk : k (.int .i64 l.length)) : ad K (.bool true) (bw (some false) v) k := by
 rw [h.len]; exact hk
theorem db {x : AV} (hk : k x) : ad K (.bool true) (.val x) k := hk
end
structure fm (aE U : St) (v : AV) (e : TypeId) (sz n : Nat) (l : List AV) : Prop where
 g : Grow U v e sz n l
 z : n = 0 -> v = .ax
 t : Sv aE v
 ex : cH aE U
section
variable {aE U : St} {v y : AV} {e : TypeId} {sz n m : Nat} {l l2 : List AV} {K' : AV -> St -> Prop} {Kp : AV -> St -> Prop}
theorem fm.nil (h : cH aE U) : fm aE U .ax e sz 0 [] := ⟨.inl ⟨rfl, rfl, rfl⟩, fun _ => rfl, (fun _ _ _ e => by cases e), h⟩
theorem fm.mono {ae : St} (h : fm aE U v e sz n l) (k : cH U ae) : fm aE ae v e sz n l := by
 refine ⟨?_, h.z, h.t, h.ex.trans k⟩
 rcases h.g with g | ⟨τ, r1, r2, r3⟩
 · exact .inl g
 · exact .inr ⟨τ, r1, k.tok r2, r3⟩
theorem zI (h : fm aE U v e sz n l) (hy : pn U y = some (m, l2)) (hl : l2.length = m * sz) (hm : 0 < m) (hb : n + m <= 4294967296)
 (hk : ∀ ae v', fm aE ae v' e sz (n + m) (l ++ l2) -> (∀ b x, (∀ n l, v ≠ .vec n (.own b) l) -> U.live b = some x -> ae.live b = some x) -> K' v' ae) : (eJ (some (e, sz)) false v y U).wp K U K' Kp := by
 refine HG h.g hy hl hm hb h.z fun ae v' g e1 n1 => hk ae v' ⟨g, fun hz => by omega, fun n' τ l' hv => ?_, fun b x hx => ?_⟩ e1
 · rcases n1 n' τ l' hv with hz | ⟨n2, l2', hx⟩
   · exact h.ex.fresh hz
   · exact h.t _ _ _ hx
 · exact e1 b x (fun n' l' hv => by rw [h.t _ _ _ hv] at hx; cases hx) (h.ex b x hx)
theorem fm.sl (h : fm aE U v e sz n l) : dX v n l := by
 rcases h.g with ⟨h1, h2, h3⟩ | ⟨τ, r1, _, _⟩
 · exact .inl ⟨h1, h2, h3⟩
 · exact .inr ⟨_, r1⟩
theorem HH {e : TypeId} {x : AV} {z : AV} (hx : x.cS = true) (hc : aA x = [x]) (hk : K' (.vec 1 .full [x]) U) : (aM (some (e, 1)) (some [z]) 1 false [(0, x)]).wp K U K' Kp := by
 rw [fI]
 refine ⟨by omega, ?_⟩
 rw [eR (o := 0) (s := 1) rfl]
 refine ⟨⟨hx, by rw [hc]; rfl, by simp [bN]⟩, ?_⟩
 rw [gQ, hc]
 exact ⟨rfl, hk⟩
end
def dB (ks : List Nat) : List AV := ks.map fun k => .int .i64 (k : Nat)
theorem IV (ks : List Nat) : (dB ks).length = ks.length := by simp [dB]
theorem qp {ks : List Nat} {i k : Nat} (h : ks[i]? = some k) : ∃ r, (dB ks).drop i = .int .i64 (k : Nat) :: r := by
 have aJ := (dy.1 h).1
 refine ⟨(dB ks).drop (i + 1), ?_⟩
 rw [gp (by simpa [dB] using aJ)]
 have := (dy.1 h).2
 simp [dB, this]
theorem vC (x : Nd) : (cM x)[5]? = some (.int .i64 x.size) := rfl
theorem Hg (x : Nd) : (cM x)[0]? = some (.int .u8 x.kind) := rfl
theorem za {U : St} {R : cB -> St -> Prop} {v : AV} {l : List Nd} {i : Nat} {t : Tre} (hv : hU U v l) (ht : eS l i t) (hl : l.length <= 100000)
 (h : ∀ ae v', fm U ae v' 3 1 t.kids.length (dB (bJ (i + 1) t.kids)) -> R (.ret v') ae) : af K 67 [v, .int .i64 (i : Nat)] U R := by
 refine Ou ?_
 unfold Qu
 have hle := ht.le
 have CP := j9 t
 rw [cn]
 refine ⟨aX (by omega) (by omega), ?_⟩
 obtain ⟨x, hx, _, xf, _⟩ := ht.kB
 refine ⟨fun m v0 v1 v5 v6 ae => ∃ (ks : List Nat) (rest : List Tre) (p : Nat), m = rest.length /\ v0 = v /\ v1 = .int .i64 (i : Nat) /\ v6 = .int .i64 (p : Nat) /\ fm U ae v5 3 1 ks.length (dB ks) /\ jr l p rest /\ ks ++ bJ p rest = bJ (i + 1) t.kids /\ p + (Tre.bC rest).length = i + t.flat.length /\ ks.length + i < p,
  ⟨_, [], t.kids, i + 1, rfl, rfl, rfl, rfl, .nil (cH.refl _), ht.kids, rfl, by omega, by simp⟩, ?_⟩
 rintro m v0 v1 v5 v6 bT ⟨ks, rest, p, rfl, rfl, rfl, rfl, hg, ju, gM, hp, sC⟩
 have IL := hv.o0 hg.ex
 refine si IL hx (vC x) ?_
 rw [cn, xf]
 refine ⟨aX (by omega) (by omega), ?_⟩
 simp only [bj, ai, aW]
 refine ⟨fun aJ => ?_, fun gn => ?_⟩
 · cases rest with
   | nil => simp at hp; omega
   | cons s rest =>
     obtain ⟨y, hy, _, Zq, _⟩ := ju.head.kB
     have yX := s.dh
     have nD := ju.head.le
     refine HH rfl rfl ?_
     refine zI hg (m := 1) (l2 := [.int .i64 (p : Nat)]) rfl rfl (by omega) (by omega) fun bR v' g2 k2 => ?_
     have A9 := hv.o0 g2.ex
     refine si A9 hy (vC y) ?_
     rw [cn, Zq]
     refine ⟨aX (by omega) (by omega), rest.length, by simp, ks ++ [p], rest, p + s.flat.length, rfl, rfl, rfl, by simp, by simpa [dB] using g2, ju.tail, by rw [<- gM]; simp [bJ], by simp at hp; omega, by simp; omega⟩
 · cases rest with
   | cons s rest => have := s.dh; simp at hp; omega
   | nil =>
     simp only [bJ, ja] at gM
     subst gM
     refine aj.mk (h _ _ ?_)
     have : (bJ (i + 1) t.kids).length = t.kids.length := jd _ _
     rw [<- this]; exact hg
theorem R8 {U : St} {R : cB -> St -> Prop} {v : AV} {l : List Nd} (hv : hU U v l) (hl : l.length <= 100000)
 (hT : td l -> R (.ret (.bool true)) U) (hF : ¬ td l -> R (.ret (.bool false)) U) : af K 70 [v] U R := by
 refine Ox ?_
 unfold Qy
 simp only [hv.len, ai, aR, aI]
 cases nS : l with
 | nil =>
   subst nS
   simp only [oE, show decide (((0 : Nat) : Int) = 0) = true from rfl, show (true == false) = false from rfl, aB, a8, ay, if_true, ai, bf]
   exact aj.mk (hF fun h => h.1.1 rfl)
 | cons x0 r0 =>
   have cm : l ≠ [] := by rw [nS]; simp
   have hx0 : l[0]? = some x0 := by rw [nS]; rfl
   have qX : jm l = x0.size := by rw [nS]; rfl
   rw [<- nS]
   have UT : 0 < l.length := List.length_pos_iff.2 cm
   have : ¬ ((l.length : Int) = 0) := by omega
   simp only [this, bZ, du]
   refine db (Nr (i := 0) hv hx0 (vC x0) ?_)
   refine db (Px hv ?_)
   rw [bS]
   refine db ?_
   simp only [ay, bm, if_false, ai]
   by_cases h0 : x0.size = l.length
   · simp only [h0, bM, bU, aU]
     refine ⟨fun m v0 v3 ae => ∃ i : Nat, m = l.length - i /\ v0 = v /\ v3 = .int .i64 (i : Nat) /\ ae = U /\ i <= l.length /\ ∀ j x, j < i -> l[j]? = some x -> 1 <= x.size /\ x.size <= (l.length : Int) - j, ⟨_, 0, rfl, rfl, rfl, rfl, by omega, fun j x h => by omega⟩, ?_⟩
     rintro m v0 v3 ae ⟨i, rfl, rfl, rfl, rfl, hi, hj⟩
     simp only [hv.len, ai, bj, aW]
     refine ⟨fun aJ => ?_, fun gn => ?_⟩
     · have aJ : i < l.length := by omega
       obtain ⟨x, hx⟩ : ∃ x, l[i]? = some x := ⟨l[i], by simp [aJ]⟩
       refine si hv hx (vC x) ?_
       rw [bj]
       simp only [ai, aI]
       by_cases h1 : x.size < 1
       · simp only [h1, bM, show (true == false) = false from rfl, aB, a8, ay, if_true, ai, bf]
         exact aj.mk (hF fun h => by have := (h.1.2.2 i x hx).1; omega)
       · simp only [h1, bZ, du]
         refine db (db (Nr hv hx (vC x) ?_))
         refine db (Px hv ?_)
         refine db ?_
         rw [dH, dp]
         refine gT ⟨aX (by omega) (by omega), ?_⟩
         rw [au, dY]
         refine db ?_
         simp only [ay, bm, if_false, ai, aW]
         refine ⟨fun h2 => aj.mk (hF fun h => by have := (h.1.2.2 i x hx).2; omega), fun h2 => ?_⟩
         rw [cn]
         refine ⟨aX (by omega) (by omega), l.length - (i + 1), by omega, i + 1, rfl, rfl, by simp, rfl, by omega, fun j y qi hy => ?_⟩
         rcases eG j i with h | h
         · exact hj j y h hy
         · have : j = i := by omega
           subst this; rw [hx] at hy; cases hy; omega
     · have hi : i = l.length := by omega
       subst hi
       have sE : pZ l := ⟨cm, by rw [qX, h0], fun j x hx => hj j x (dy.1 hx).1 hx⟩
       clear hj gn
       refine ⟨fun m w0 v4 bR => ∃ i : Nat, m = l.length - i /\ w0 = v0 /\ v4 = .int .i64 (i : Nat) /\ bR = ae /\ i <= l.length /\ ∀ (j : Nat) x, j < i -> l[j]? = some x -> lZ l (j + x.size.toNat) l.length (j + 1) = j + x.size.toNat, ⟨_, 0, rfl, rfl, rfl, rfl, by omega, fun j x h => by omega⟩, ?_⟩
       rintro m w0 v4 bR ⟨i, rfl, rfl, rfl, rfl, hi, hj⟩
       simp only [hv.len, ai, bj, aW]
       refine ⟨fun aJ => ?_, fun gn => ?_⟩
       · have aJ : i < l.length := by omega
         obtain ⟨x, hx⟩ : ∃ x, l[i]? = some x := ⟨l[i], by simp [aJ]⟩
         have xf := sE.2.2 i x hx
         rw [cn]
         refine ⟨aX (by omega) (by omega), ?_⟩
         refine ⟨fun m u0 v4 v5 c8 => ∃ p f : Nat, m = f /\ u0 = w0 /\ v4 = .int .i64 (i : Nat) /\ v5 = .int .i64 (p : Nat) /\ c8 = bR /\ p <= l.length /\ l.length - p <= f /\ lZ l (i + x.size.toNat) f p = lZ l (i + x.size.toNat) l.length (i + 1), ⟨_, i + 1, l.length, rfl, rfl, rfl, rfl, rfl, by omega, by omega, rfl⟩, ?_⟩
         rintro m u0 v4 v5 c8 ⟨p, f, rfl, rfl, rfl, rfl, rfl, hp, hf, hw⟩
         refine si hv hx (vC x) ?_
         rw [cn]
         refine ⟨aX (by omega) (by omega), ?_⟩
         simp only [ai, bj, aW]
         refine ⟨fun pw => ?_, fun hpg => ?_⟩
         · have aaq : p < l.length := by omega
           obtain ⟨y, hy⟩ : ∃ y, l[p]? = some y := ⟨l[p], by simp [aaq]⟩
           have Zq := sE.2.2 p y hy
           refine si hv hy (vC y) ?_
           rw [cn]
           refine ⟨aX (by omega) (by omega), ?_⟩
           cases m with
           | zero => omega
           | succ f =>
           rw [pM hy (by omega)] at hw
           exact ⟨f, by omega, p + y.size.toNat, f, rfl, rfl, rfl, by congr 1; omega, rfl, by omega, by omega, hw⟩
         · rw [pN (by omega)] at hw
           refine si hv hx (vC x) ?_
           rw [cn]
           refine ⟨aX (by omega) (by omega), ?_⟩
           simp only [ai, bS]
           by_cases U4 : (p : Int) = i + x.size
           · simp only [U4, bM, bU, aU]
             rw [cn]
             refine ⟨aX (by omega) (by omega), l.length - (i + 1), by omega, i + 1, rfl, rfl, by simp, rfl, by omega, fun j z qi hz => ?_⟩
             rcases eG j i with h | h
             · exact hj j z h hz
             · have : j = i := by omega
               subst this; rw [hx] at hz; cases hz
               rw [<- hw]; omega
           · simp only [U4, bZ, cZ, bf]
             exact aj.mk (hF fun h => U4 (by have := h.2 i x hx; omega))
       · have hi : i = l.length := by omega
         subst hi
         exact aj.mk (hT ⟨sE, fun j x hx => hj j x (dy.1 hx).1 hx⟩)
   · simp only [h0, bZ, cZ, bf]
     exact aj.mk (hF fun h => h0 (by rw [<- qX]; exact h.1.2.1))
theorem IW {out : List Nat} {k x : Nat} (h : k < out.length) : aH (dB out) k (aA (.int .i64 ((x : Nat) : Int))) = dB (out.set k x) := by
 simp only [aH, AL, dB, jy, oE]
 rw [List.map_set, List.set_eq_take_append_cons_drop, if_pos (by simpa using h)]
 simp
theorem Yv {K' : AV -> Prop} {U : St} {v : AV} {ks : List Nat} {i k : Nat} (hv : dX v ks.length (dB ks)) (hk : ks[i]? = some k) (h : K' (.int .i64 (k : Nat))) :
 az K (aF (some (3, 1)) none v (.int .i64 (i : Nat))) fun p => az K (ao (some (false, 1)) p U) K' := by
 have aJ := (dy.1 hk).1
 obtain ⟨c, rfl, k9⟩ := hv.at (sz := 1) (e := 3) aJ
 obtain ⟨r, hr⟩ := qp hk
 rw [k9, Nat.mul_one, hr]
 exact ⟨by omega, h⟩
theorem WJ {K' : AV -> St -> Prop} {Kp : AV -> St -> Prop} {U : St} {v : AV} {ks : List Nat} {i k : Nat} (hv : dX v ks.length (dB ks)) (hk : ks[i]? = some k) (h : K' (.int .i64 (k : Nat)) U) :
 (aF (some (3, 1)) none v (.int .i64 (i : Nat))).wp K U (fun p U => (ao (some (false, 1)) p U).wp K U K' Kp) Kp := by
 have aJ := (dy.1 hk).1
 obtain ⟨c, rfl, k9⟩ := hv.at (sz := 1) (e := 3) aJ
 obtain ⟨r, hr⟩ := qp hk
 rw [k9, Nat.mul_one, hr]
 exact ⟨by omega, h⟩
theorem M9 {U : St} {R : cB -> St -> Prop} {v : AV} {t : Tre} (hv : hU U v t.flat) (hl : t.flat.length <= 60000)
 (h : ∀ b ae, U.live b = none -> ae.box b = some (dB (lu 0 t)) -> cH U ae -> R (.ret (.ms b 0 t.flat.length 1 3)) ae) : af K 73 [v] U R := by
 refine OA ?_
 unfold QB
 simp only [hv.len, ai, pG, if_true, wp_cond, lP]
 refine ⟨by simp only [true_and]; omega, fun b hb => ?_⟩
 have hDl := rL 0 t
 have hz : bN ((t.flat.length : Int)).toNat [AV.int .i64 0] = dB (List.replicate t.flat.length 0) := by
  rw [dC]
  simp only [dB, List.map_replicate]
  generalize t.flat.length = n
  induction n with
  | zero => rfl
  | succ n ih => rw [List.replicate_succ, <- ih]; rfl
 rw [hz]
 simp only [NV.at, dC]
 have dK : (U.new b (.box (dB (List.replicate t.flat.length 0)))).box b = some (dB (List.replicate t.flat.length 0)) := aN
 have e1 := bH hb (x := .box (dB (List.replicate t.flat.length 0)))
 have f1 := hb.1
 generalize U.new b (.box (dB (List.replicate t.flat.length 0))) = bT at *
 let P (i j : Nat) : Prop := j = 0 \/ ∃ i' s', i' < i /\ eS t.flat i' s' /\ j ∈ bJ (i' + 1) s'.kids
 have hD0 : (lu 0 t)[0]? = some 0 := by cases t; simp [so]
 refine ⟨fun m v0 v3 v4 ae => ∃ (i : Nat) (out : List Nat), m = t.flat.length - i /\ v0 = v /\ v3 = .ms b 0 t.flat.length 1 3 /\ v4 = .int .i64 (i : Nat) /\ i <= t.flat.length /\ ae.box b = some (dB out) /\ out.length = t.flat.length /\ cH U ae /\ ∀ j, j < t.flat.length -> P i j -> out[j]? = (lu 0 t)[j]?,
  ⟨_, 0, List.replicate t.flat.length 0, rfl, rfl, rfl, rfl, by omega, dK, by simp, e1, fun j hj hp => ?_⟩, ?_⟩
 · rcases hp with rfl | ⟨i', _, ik, _⟩
   · rw [hD0]; simp [hj]
   · omega
 clear dK e1
 rintro m w v3 v4 bR ⟨i, out, rfl, rfl, rfl, rfl, hi, qW, CZ, e2, hP⟩
 have A9 := hv.o0 e2
 simp only [A9.len, ai, bj, aW]
 refine ⟨fun aJ => ?_, fun gn => ?_⟩
 · have aJ : i < t.flat.length := by omega
   obtain ⟨⟨s, e, hs, hDe, YP, hei⟩, aap⟩ := place t aJ
   have CY : out[i]? = some e := by
    rw [hP i aJ ?_, hDe]
    rcases aap with h | ⟨i', s', h1, h2, h3⟩
    · exact .inl h
    · exact .inr ⟨i', s', h1, h2, h3⟩
   have nD := hs.le
   have hkk := Tre.o1 s.kids
   have hsf := j9 s
   refine za A9 hs (by omega) fun c8 v5 g3 => ?_
   have sC : (bJ (i + 1) s.kids).length = s.kids.length := jd _ _
   have Zt : dX v5 (bJ (i + 1) s.kids).length (dB (bJ (i + 1) s.kids)) := by rw [sC]; exact g3.sl
   have U7 : ∀ k ∈ bJ (i + 1) s.kids, i < k /\ k < t.flat.length := by
    have : ∀ (ts : List Tre) (p : Nat), jr t.flat p ts -> ∀ k ∈ bJ p ts, p <= k /\ k < t.flat.length := by
     intro ts
     induction ts with
     | nil => intro p _ k hk; simp [bJ] at hk
     | cons u ts ih =>
       intro p ju k hk
       simp only [bJ, eA] at hk
       rcases hk with rfl | hk
       · have := ju.head.le; have := u.dh; omega
       · have := ih _ ju.tail k hk; omega
    intro k hk
    have := this _ _ hs.kids k hk
    omega
   simp only [bu]
   generalize gM : bJ (i + 1) s.kids = ks at *
   have e3 := e2.trans g3.ex
   have Uv := g3.ex.bL qW
   refine ⟨fun m w0 w3 w4 w5 w6 ae => ∃ (q : Nat) (tO : List Nat), m = ks.length - q /\ w0 = w /\ w3 = .ms b 0 t.flat.length 1 3 /\ w4 = .int .i64 (i : Nat) /\ w5 = v5 /\ w6 = .int .i64 (q : Nat) /\ q <= ks.length /\ ae.box b = some (dB tO) /\ tO.length = t.flat.length /\ cH U ae /\ tO[i]? = some e /\ (∀ j, j < t.flat.length -> P i j -> tO[j]? = (lu 0 t)[j]?) /\ ∀ q' j, q' < q -> ks[q']? = some j -> tO[j]? = some (e + 1),
    ⟨_, 0, out, rfl, rfl, rfl, rfl, rfl, rfl, by omega, Uv, CZ, e3, CY, hP, fun q' j h => by omega⟩, ?_⟩
   clear Uv e3 qW hP CY CZ
   rintro m w0 w3 w4 w5 w6 dq ⟨q, tO, rfl, rfl, rfl, rfl, rfl, rfl, hq, qW, CZ, e4, CY, hP, hQ⟩
   have X2 : bw (some false) w5 = .val (.int .i64 ks.length) := Zt.len
   simp only [X2, ai, bj, aW]
   refine ⟨fun tt => ?_, fun aah => ?_⟩
   · have tt : q < ks.length := by omega
     obtain ⟨fO, xP⟩ : ∃ fO, ks[q]? = some fO := ⟨ks[q], by simp [tt]⟩
     have Za := U7 fO (fB xP)
     refine Yv Zt xP ?_
     rw [B2]
     refine ⟨⟨by omega, by omega, rfl⟩, ?_⟩
     obtain ⟨r, hr⟩ := qp CY
     rw [lD qW, dC, Nat.mul_one, cq, hr, eQ, tU]
     refine ⟨aX (by omega) (by omega), ?_⟩
     rw [B2]
     refine ⟨⟨by omega, by omega, rfl⟩, ?_⟩
     rw [dC, Nat.mul_one, cq, dD qW]
     refine ⟨⟨rfl, rfl, by rw [IV]; omega⟩, ?_⟩
     have tw := IW (out := tO) (k := fO) (x := e + 1) (by omega)
     rw [show (((e + 1 : Nat) : Int)) = (e : Int) + 1 by omega] at tw
     rw [tw, cn]
     refine ⟨aX (by omega) (by omega), ks.length - (q + 1), by omega, q + 1, tO.set fO (e + 1), rfl, rfl, rfl, rfl, rfl, by simp, tt, bo, by simpa using CZ, e4.set f1, ?_, fun j hj hp => ?_, fun q' j PV hj => ?_⟩
     · rw [List.getElem?_set_ne (by omega)]; exact CY
     · by_cases yQ : fO = j
       · subst yQ
         rw [List.getElem?_set_self (by omega)]
         exact (YP.bJ fO (by rw [gM]; exact fB xP)).symm
       · rw [List.getElem?_set_ne yQ]; exact hP j hj hp
     · by_cases yQ : fO = j
       · subst yQ
         rw [List.getElem?_set_self (by omega)]
       · rw [List.getElem?_set_ne yQ]
         rcases eG q' q with h | h
         · exact hQ q' j h hj
         · have : q' = q := by omega
           subst this; rw [xP] at hj; cases hj; exact absurd rfl yQ
   · have hq : q = ks.length := by omega
     subst hq
     rw [cn]
     refine ⟨aX (by omega) (by omega), t.flat.length - (i + 1), by omega, i + 1, tO, rfl, rfl, rfl, by simp, aJ, qW, CZ, e4, fun j hj hp => ?_⟩
     rcases hp with hp | ⟨i', s', h1, h2, h3⟩
     · exact hP j hj (.inl hp)
     · rcases eG i' i with h | h
       · exact hP j hj (.inr ⟨i', s', h, h2, h3⟩)
       · have : i' = i := by omega
         subst this
         have := h2.inj hs
         subst this
         have hm : j ∈ ks := by rw [<- gM]; exact h3
         obtain ⟨q', PV, C2⟩ := List.getElem_of_mem hm
         rw [hQ q' j PV (by rw [<- C2]; simp)]
         exact (YP.bJ j h3).symm
 · have hi : i = t.flat.length := by omega
   subst hi
   have : out = lu 0 t := by
    refine List.ext_getElem? fun j => ?_
    rcases eG j t.flat.length with hj | hj
    · refine hP j hj ?_
      rcases (place t hj).2 with h | ⟨i', s', h1, h2, h3⟩
      · exact .inl h
      · exact .inr ⟨i', s', by omega, h2, h3⟩
    · rw [oD (by omega), oD (by omega)]
   subst this
   exact aj.mk (h b bR f1 qW e2)
end Go.Rip
namespace Go.Rip
open Go.Proofs Go.RowKit
theorem yJ {c : Prop} [Decidable c] {x : AV} {f : AV -> av} {q : Bool} {U : St} {K' : AV -> St -> Prop} {Kp : AV -> St -> Prop} (hf : c -> f x = .val (.bool q)) (hk : K' (.bool (decide c && q)) U) :
 ad K (aq (.bool (decide c)) true) (av.val x) fun v6 => ad K (aq (.bool (decide c)) true) (f v6) fun v7 => (aP (.bool (decide c)) v7 (.bool false)).wp K U K' Kp := by
 by_cases hc : c
 · simp only [hc, bM, aI, du, aB, bl, au, hf hc, ay, if_true, ai]
   simpa [hc] using hk
 · simp only [hc, bZ, aI, show (false == true) = false from rfl, aB, a8, ay, bm, if_false, ai]
   simpa [hc] using hk
theorem rM {p : Bool} {x : AV} {f : AV -> av} {q : Bool} {U : St} {K' : AV -> St -> Prop} {Kp : AV -> St -> Prop} (hf : p = false -> f x = .val (.bool q)) (hk : K' (.bool (p || q)) U) :
 ad K (aq (.bool p) false) (av.val x) fun v6 => ad K (aq (.bool p) false) (f v6) fun v7 => (aP (.bool p) (.bool true) v7).wp K U K' Kp := by
 cases p with
 | true =>
   simp only [aI, show (true == false) = false from rfl, aB, a8, ay, if_true, ai]
   simpa using hk
 | false =>
   simp only [aI, du, aB, bl, au, hf rfl, ay, bm, if_false, ai]
   simpa using hk
theorem oR (k : Int) : Pure K 141 [.int .u8 k] (.bool (jP k)) := by
 intro U R hR
 refine Kw ?_
 unfold Kv
 rw [aR, ai]
 refine rM (fun _ => aR ..) (aj.eq hR ?_)
 simp only [jP, AV.bool.injEq]; grind
theorem kS (k : Int) : Pure K 142 [.int .u8 k] (.bool (fw k)) := by
 intro U R hR
 refine Ky ?_
 unfold Kx
 rw [dG, ai]
 refine yJ (fun _ => eK ..) (aj.eq hR ?_)
 simp only [fw, AV.bool.injEq]; grind
theorem EH (k : Int) : Pure K 191 [.int .u8 k] (.bool (oy k)) := by
 intro U R hR
 refine Lw ?_
 unfold Lv
 rw [dG, ai]
 refine yJ (fun _ => eK ..) (aj.eq hR ?_)
 simp only [oy, AV.bool.injEq]; grind
theorem EJ (k : Int) : Pure K 139 [.int .u8 k] (.bool (pT k)) := by
 intro U R hR
 refine Ks ?_
 unfold Kq
 refine (oR k).go ?_
 refine rM (fun _ => aR ..) (aj.eq hR ?_)
 simp only [jP, pT, AV.bool.injEq]; grind
def oP (k : Int) : Bool := decide (k = 6 \/ k = 7 \/ k = 12 \/ k = 14 \/ k = 25 \/ k = 26)
theorem vb (k : Int) : Pure K 136 [.int .u8 k] (.bool (oP k)) := by
 intro U R hR
 refine Kj ?_
 unfold Ki
 refine (oR k).go ?_
 refine rM (fun _ => aR ..) ?_
 refine rM (fun _ => aR ..) ?_
 refine rM (fun _ => aR ..) ?_
 refine rM (fun _ => aR ..) (aj.eq hR ?_)
 simp only [jP, oP, AV.bool.injEq]; grind
theorem y7 (n : Int) : Pure K 137 [.int .i64 n] (.bool (gN n)) := by
 intro U R hR
 refine Kl ?_
 unfold Kk
 rw [dG, ai]
 refine yJ (fun _ => eK ..) (aj.eq hR ?_)
 simp only [gN, AV.bool.injEq]; grind
def iN (k : Int) : Bool := decide (k = 2 \/ k = 3 \/ k = 4 \/ k = 5 \/ k = 12 \/ k = 13 \/ k = 14 \/ k = 16 \/ k = 31 \/ k = 32 \/ k = 33 \/ k = 34 \/ k = 37)
theorem Im (k : Int) : Pure K 134 [.int .u8 k] (.bool (iN k)) := by
 intro U R hR
 refine Kf ?_
 unfold Kd
 intro j hj
 simp only [aR, ai, aW]
 have yes : iN k = true -> ∀ b, b = true -> j (.bool b) U := fun h b hb => by
  subst hb
  refine hj _ _ ?_
  simp only [bf]
  rw [h] at hR; exact aj.mk hR
 have no : iN k = false -> ∀ b, b = false -> j (.bool b) U := fun h b hb => by
  subst hb
  refine hj _ _ ?_
  simp only [aU]
  rw [h] at hR; exact aj.mk hR
 iterate 12
  refine ⟨fun h => yes (by simp only [iN, cL]; omega) _ (by simpa using h), fun _ => ?_⟩
 by_cases h : k = 37
 · exact yes (by simp only [iN, cL]; omega) _ (by simpa using h)
 · exact no (by simp only [iN, decide_eq_false_iff_not]; omega) _ (by simpa using h)
theorem Dj (n : Nat) (s : bg) (a : Int) (hs : s.length <= 100000) : Pure K 211 [.agg [.int .u8 n, .str s, .int .i64 a]] (.bool (decide (s ≠ [] /\ fD s = (0, n, s)))) := by
 refine Pure.of rfl rfl (fun U => rfl) fun R hR => ?_
 refine LI ?_
 unfold LH
 rw [dO rfl]
 intro b1 dK
 have m1 : ((br ⟨.e, 0⟩).new b1 (.box (aA (.agg [.int .u8 n, .str s, .int .i64 a])))).box b1 = some [.int .u8 n, .str s, .int .i64 a] := aN
 generalize (br _).new b1 _ = aE at *
 clear dK
 simp only [aV, ai, cq]
 rw [fh m1]
 simp only [List.drop, bB, ic, ai, aW, aV, cq]
 refine ⟨fun h0 => ?_, fun h0 => ?_⟩
 · have h0 : s = [] := h0
   refine aj.eq (hR _) ?_
   simp [h0]
 · have h0 : s ≠ [] := h0
   rw [fh m1]
   simp only [List.drop, bB]
   refine (JQ s 0 (by omega) hs).go ?_
   rw [ej]
   have key : ∀ (c1 : List AV) (e : Int), oT (fD s) 0 = .aO [.agg c1, .int .i64 e] -> c1.length = 3 -> (∃ (k2 : Nat) (t2 : bg) (a2 : Int), c1 = [.int .u8 k2, .str t2, .int .i64 a2] /\ (decide (s ≠ [] /\ fD s = (0, n, s)) = (decide (e = 0) && (decide ((k2 : Int) = n) && decide (t2 = s))))) ->
    (aT (.aO [.agg c1, .int .i64 e]) 0).wp K aE (fun v12 U =>
   (aT (.aO [.agg c1, .int .i64 e]) 1).wp K U (fun bD U =>
   (av.c7 [AV.int .u8 0, AV.str [], AV.int .i64 0]).wp K U (fun v3 U =>
   (aQ (some (true, 3)) v3 v12 U).wp K U (fun _ U =>
   (ak .eql (BT.mk false false false none false) true bD (AV.int .i64 0)).wp K U (fun bA U =>
   ad K (aq bA true) (ah (some 0) v3) (fun cg =>
   ad K (aq bA true) (ao (some (false, 1)) cg U) (fun bV =>
   ad K (aq bA true) (ah (some 0) (.box b1 0)) (fun cw =>
   ad K (aq bA true) (ao (some (false, 1)) cw U) (fun v20 =>
   ad K (aq bA true) (ak .eql (BT.mk false false false none false) false bV v20) (fun v21 =>
   (aP bA v21 (AV.bool false)).wp K U (fun ck U =>
   ad K (aq ck true) (ah (some 1) v3) (fun v24 =>
   ad K (aq ck true) (ao (some (false, 1)) v24 U) (fun dV =>
   ad K (aq ck true) (ah (some 1) (.box b1 0)) (fun eB =>
   ad K (aq ck true) (ao (some (false, 1)) eB U) (fun dw =>
   ad K (aq ck true) (ak .eql (BT.mk false false false none false) false dV dw) (fun v28 =>
   (aP ck v28 (AV.bool false)).wp K U (fun ct U =>
   aj R ct U) (aa R))))))) (aa R))))))) (aa R)) (aa R)) (aa R)) (aa R)) (aa R) := by
    rintro c1 e - wY ⟨k2, t2, a2, rfl, hd⟩
    simp only [bK, List.drop, bB]
    rw [dQ]
    intro b3 gY
    have n31 := gY.cD m1
    have m3 : (aE.new b3 (.box [AV.int .u8 0, AV.str [], AV.int .i64 0])).box b3 = some [AV.int .u8 0, AV.str [], AV.int .i64 0] := aN
    have Vs := (bH gY (x := .box [AV.int .u8 0, AV.str [], AV.int .i64 0])).bL m1
    generalize aE.new b3 (.box [AV.int .u8 0, AV.str [], AV.int .i64 0]) = bT at *
    rw [dD m3]
    refine ⟨⟨rfl, rfl, by simp⟩, ?_⟩
    have g3 : (bT.set b3 (.box (aH [AV.int .u8 0, AV.str [], AV.int .i64 0] 0 (aA (.agg [.int .u8 k2, .str t2, .int .i64 a2]))))).box b3 = some [.int .u8 k2, .str t2, .int .i64 a2] := by rw [bo]; rfl
    have g1 : (bT.set b3 (.box (aH [AV.int .u8 0, AV.str [], AV.int .i64 0] 0 (aA (.agg [.int .u8 k2, .str t2, .int .i64 a2]))))).box b1 = some [.int .u8 n, .str s, .int .i64 a] := by rw [aY n31]; exact Vs
    generalize bT.set b3 (.box (aH [AV.int .u8 0, AV.str [], AV.int .i64 0] 0 (aA (.agg [.int .u8 k2, .str t2, .int .i64 a2])))) = bR at *
    simp only [aR, ai]
    rw [hd] at hR
    by_cases he : e = 0
    · simp only [he, bM, aI, du, aB, bl, aV, au, cq, lD g3, lD g1, List.drop, eQ, aR, ay, if_true, ai]
      by_cases hk : (k2 : Int) = n
      · simp only [hk, bM, aI, du, aB, bl, aV, au, cq, lD g3, lD g1, List.drop, eQ, ic, ay, if_true, ai]
        refine aj.eq (hR _) ?_
        simp [he, hk]
      · simp only [hk, bZ, aI, show (false == true) = false from rfl, aB, a8, ay, bm, if_false, ai]
        refine aj.eq (hR _) ?_
        simp [he, hk]
    · simp only [he, bZ, aI, show (false == true) = false from rfl, aB, a8, ay, bm, if_false, ai]
      refine aj.eq (hR _) ?_
      simp [he]
   obtain ⟨⟨e, k2, t2⟩, ht⟩ : ∃ p, fD s = p := ⟨_, rfl⟩
   rw [ht]
   unfold oT
   by_cases he : e = 0
   · rw [if_pos he]
     refine key _ _ ?_ rfl ⟨k2, t2, _, rfl, ?_⟩
     · unfold oT; rw [ht, if_pos he]
     · have e3 : ((k2 : Int) = (n : Int)) = (k2 = n) := by simp; omega
       simp only [ht, jz, he, e3]; simp [h0]
   · rw [if_neg he]
     refine key _ _ ?_ rfl ⟨0, [], 0, rfl, ?_⟩
     · unfold oT; rw [ht, if_neg he]
     · rw [ht]; simp [he]
theorem EI (s : bg) (hs : s.length <= 100000) : Pure K 135 [.str s] (.bool (iB s)) := by
 intro U R hR
 refine Kh ?_
 unfold Kg
 refine oZ [.int .u8 1, .str s, .int .i64 0] rfl ?_
 refine (Dj 1 s 0 hs).go ?_
 refine aj.eq hR ?_
 unfold iB
 have : fD s = (0, 1, s) -> s ≠ [] := fun h e => by subst e; revert h; decide
 rw [AV.bool.injEq, decide_eq_decide]
 exact ⟨fun h => h.2, fun h => ⟨this h, h⟩⟩
end Go.Rip
namespace Go.Rip
open Go.Proofs Go.RowKit
def eF (ks : List Int) : List AV := ks.map (.int .u8)
theorem Ag {ks : List Int} {i : Nat} {k : Int} (h : ks[i]? = some k) : ∃ r, (eF ks).drop i = .int .u8 k :: r := by
 have aJ := (dy.1 h).1
 refine ⟨(eF ks).drop (i + 1), ?_⟩
 rw [gp (by simpa [eF] using aJ)]
 have := (dy.1 h).2
 simp [eF, this]
section
variable {U : St} {v : AV} {ks : List Int} {i : Nat} {k : Int} {e : Nat} {K' : AV -> St -> Prop} {Kp : AV -> St -> Prop} {kq : AV -> Prop}
theorem Pr (hv : dX v ks.length (eF ks)) (hk : ks[i]? = some k) (h : K' (.int .u8 k) U) :
 (aF (some (e, 1)) none v (.int .i64 (i : Nat))).wp K U (fun p U => (ao (some (false, 1)) p U).wp K U K' Kp) Kp := by
 have aJ := (dy.1 hk).1
 obtain ⟨c, rfl, k9⟩ := hv.at (sz := 1) (e := e) aJ
 obtain ⟨r, hr⟩ := Ag hk
 rw [k9, Nat.mul_one, hr]
 exact ⟨by omega, h⟩
theorem CG (hv : dX v ks.length (eF ks)) (hk : ks[i]? = some k) (h : kq (.int .u8 k)) :
 ad K (.bool true) (aF (some (e, 1)) none v (.int .i64 (i : Nat))) fun p => ad K (.bool true) (ao (some (false, 1)) p U) kq := by
 have aJ := (dy.1 hk).1
 obtain ⟨c, rfl, k9⟩ := hv.at (sz := 1) (e := e) aJ
 obtain ⟨r, hr⟩ := Ag hk
 rw [k9, Nat.mul_one, hr]
 exact gT ⟨by omega, gT h⟩
theorem pR {f : FuncId} {args : List AV} {x : AV} (h : Pure K f args x) (hk : kq x) : ad K (.bool true) (av.enter f args) kq := gT ⟨x, h, hk⟩
end
theorem zP {f : FuncId} {p : Int -> Bool} {U : St} {R : cB -> St -> Prop} {v : AV} {ks : List Int} (hv : dX v ks.length (eF ks)) (hl : ks.length <= 100000) (hp : ∀ k, Pure K f [.int .u8 k] (.bool (p k))) (h : R (.ret (.bool (ks.all p))) U) :
 cG 2 [v, (AV.int .i64 0)] U fun lp v0 v3 U =>
 (bw (some false) v0).wp K U (fun v6 U =>
 (ak .lss (BT.mk false false false none false) false v3 v6).wp K U (fun v7 U =>
 al v7 (
  (aF (some (5, 1)) none v0 v3).wp K U (fun v12 U =>
  (ao (some (false, 1)) v12 U).wp K U (fun bD U =>
  af K f [bD] U (ar (fun bQ U =>
  (fi .not bQ).wp K U (fun bA U =>
  al bA (
   aj R (AV.bool false) U) (
   (ak .add (BT.mk false false false none false) true v3 (AV.int .i64 1)).wp K U (fun v9 U =>
   lp v0 v9 U) (aa R))) (aa R)) (aa R))) (aa R)) (aa R)) (
  aj R (AV.bool true) U)) (aa R)) (aa R) := by
 refine ⟨fun m v0 v3 ae => ∃ i : Nat, m = ks.length - i /\ i <= ks.length /\ v0 = v /\ v3 = .int .i64 (i : Nat) /\ ae = U /\ (ks.take i).all p = true, ⟨_, 0, rfl, by omega, rfl, rfl, rfl, by simp⟩, ?_⟩
 rintro m v0 v3 ae ⟨i, rfl, hi, rfl, rfl, rfl, bq⟩
 have hlen : bw (some false) v0 = .val (.int .i64 ks.length) := hv.len
 simp only [hlen, bj, ai, aW]
 refine ⟨fun aJ => ?_, fun gn => ?_⟩
 · have aJ : i < ks.length := by omega
   have hx : ks[i]? = some ks[i] := by simp [aJ]
   refine Pr hv hx ((hp _).go ?_)
   simp only [cJ, ai]
   cases sD : p ks[i] with
   | true =>
     simp only [bU, aU, cn]
     refine ⟨aX (by omega) (by omega), ks.length - (i + 1), by omega, i + 1, rfl, by omega, rfl, by simp, rfl, ?_⟩
     rw [pk, hx, List.all_append, bq]; simp [sD]
   | false =>
     simp only [cZ, bf]
     have : ks.all p = false := by
      cases hb : ks.all p with
      | false => rfl
      | true => rw [dP] at hb; rw [hb _ (qE aJ)] at sD; cases sD
     rw [this] at h; exact aj.mk h
 · have hi : i = ks.length := by omega
   subst hi
   rw [pj] at bq
   rw [bq] at h; exact aj.mk h
section
variable {v : AV} {ks : List Int}
theorem Ci (hv : dX v ks.length (eF ks)) (hl : ks.length <= 100000) : Pure K 138 [v] (.bool (ks.all oy)) := fun U R hR => by
 refine Ko ?_; unfold Km; exact zP hv hl EH hR
theorem Ch (hv : dX v ks.length (eF ks)) (hl : ks.length <= 100000) : Pure K 143 [v] (.bool (ks.all jP)) := fun U R hR => by
 refine KA ?_; unfold Kz; exact zP hv hl oR hR
theorem nO (hv : dX v ks.length (eF ks)) (hl : ks.length <= 100000) : Pure K 144 [v] (.bool (ks.all fw)) := fun U R hR => by
 refine KD ?_; unfold KB; exact zP hv hl kS hR
theorem Gf (hv : dX v ks.length (eF ks)) (hl : ks.length <= 100000) (c : Int) : Pure K 140 [v, .int .u8 c] (.bool (ks.all fun k => decide (k = c))) := fun U R h => by
 refine Ku ?_
 unfold Kt
 refine ⟨fun m v0 v1 v3 ae => ∃ i : Nat, m = ks.length - i /\ i <= ks.length /\ v0 = v /\ v1 = .int .u8 c /\ v3 = .int .i64 (i : Nat) /\ ae = U /\ (ks.take i).all (fun k => decide (k = c)) = true, ⟨_, 0, rfl, by omega, rfl, rfl, rfl, rfl, by simp⟩, ?_⟩
 rintro m v0 v1 v3 ae ⟨i, rfl, hi, rfl, rfl, rfl, rfl, bq⟩
 have hlen : bw (some false) v0 = .val (.int .i64 ks.length) := hv.len
 simp only [hlen, bj, ai, aW]
 refine ⟨fun aJ => ?_, fun gn => ?_⟩
 · have aJ : i < ks.length := by omega
   have hx : ks[i]? = some ks[i] := by simp [aJ]
   refine Pr hv hx ?_
   rw [bS, ai]
   by_cases sD : ks[i] = c
   · simp only [sD, bM, bU, aU, cn]
     refine ⟨aX (by omega) (by omega), ks.length - (i + 1), by omega, i + 1, rfl, by omega, rfl, rfl, by simp, rfl, ?_⟩
     rw [pk, hx, List.all_append, bq]; simp [sD]
   · simp only [sD, bZ, cZ, bf]
     have : ks.all (fun k => decide (k = c)) = false := by
      cases hb : ks.all (fun k => decide (k = c)) with
      | false => rfl
      | true => rw [dP] at hb; exact absurd (of_decide_eq_true (hb _ (qE aJ))) sD
     rw [this] at h; exact aj.mk h
 · have hi : i = ks.length := by omega
   subst hi
   rw [pj] at bq
   rw [bq] at h; exact aj.mk h
theorem Eh (hv : dX v ks.length (eF ks)) (hl : ks.length <= 100000) : Pure K 145 [v] (.bool (ks.all jO)) := fun U R h => by
 refine KF ?_
 unfold KE
 refine ⟨fun m v0 v3 ae => ∃ i : Nat, m = ks.length - i /\ i <= ks.length /\ v0 = v /\ v3 = .int .i64 (i : Nat) /\ ae = U /\ (ks.take i).all jO = true, ⟨_, 0, rfl, by omega, rfl, rfl, rfl, by simp⟩, ?_⟩
 rintro m v0 v3 ae ⟨i, rfl, hi, rfl, rfl, rfl, bq⟩
 have hlen : bw (some false) v0 = .val (.int .i64 ks.length) := hv.len
 simp only [hlen, bj, ai, aW]
 refine ⟨fun aJ => ?_, fun gn => ?_⟩
 · have aJ : i < ks.length := by omega
   have hx : ks[i]? = some ks[i] := by simp [aJ]
   have Nt : jO ks[i] = true -> (ak .add (BT.mk false false false none false) true (.int .i64 (i : Nat)) (AV.int .i64 1)).wp K ae (fun v9 U => (∃ m', m' < ks.length - i /\ ∃ P1 : Nat, m' = ks.length - P1 /\ P1 <= ks.length /\ v0 = v0 /\ v9 = .int .i64 (P1 : Nat) /\ U = ae /\ (ks.take P1).all jO = true)) (aa R) := fun sD => by
    rw [cn]
    refine ⟨aX (by omega) (by omega), ks.length - (i + 1), by omega, i + 1, rfl, by omega, rfl, by simp, rfl, ?_⟩
    rw [pk, hx, List.all_append, bq]; simp [sD]
   have bad : jO ks[i] = false -> aj R (AV.bool false) ae := fun sD => by
    have : ks.all jO = false := by
     cases hb : ks.all jO with
     | false => rfl
     | true => rw [dP] at hb; rw [hb _ (qE aJ)] at sD; cases sD
    rw [this] at h; exact aj.mk h
   refine Pr hv hx ((kS _).go ?_)
   simp only [cJ, ai]
   cases ht : fw ks[i] with
   | true =>
     simp only [bU, aI, show (false == true) = false from rfl, aB, a8, ay, bm, if_false, ai, aU]
     exact Nt (by simp only [fw, jO, cL] at ht ⊢; omega)
   | false =>
     simp only [cZ, aI, du]
     refine db (db (CG hv hx ?_))
     rw [bS]
     refine db ?_
     simp only [ay, if_true, ai]
     by_cases h5 : ks[i] = 35
     · simp only [h5, bM, bU, aI, show (false == true) = false from rfl, aB, a8, ay, bm, if_false, ai, aU]
       exact Nt (by rw [h5]; rfl)
     · simp only [h5, bZ, cZ, aI, du]
       refine db (db (CG hv hx ?_))
       rw [bS]
       refine db ?_
       simp only [ay, if_true, ai]
       by_cases h6 : ks[i] = 36
       · simp only [h6, bM, bU, aU]
         exact Nt (by rw [h6]; rfl)
       · simp only [h6, bZ, cZ, bf]
         exact bad (by simp only [fw, jO, decide_eq_false_iff_not] at ht ⊢; omega)
 · have hi : i = ks.length := by omega
   subst hi
   rw [pj] at bq
   rw [bq] at h; exact aj.mk h
end
end Go.Rip
