/- Lemmas for the proof: no conditions. -/
import Derived.Test.YtnfpmiiopiinbaaGreatDoorRipZz
import Derived.Test.YtnfpmiiopiinbaaGreatDoorRipS
import Derived.Test.YtnfpmiiopiinbaaGreatDoorRipK
import Derived.Test.YtnfpmiiopiinbaaGreatDoorRipF
import Derived.Test.YtnfpmiiopiinbaaGreatDoorRipU
import Derived.Test.YtnfpmiiopiinbaaGreatDoorRipG
set_option linter.unusedVariables false
set_option linter.unusedSimpArgs false
set_option linter.loopingSimpArgs false
namespace Go.Rip
open Go.Proofs Go.RowKit
theorem Ag {L : List AV} {o : Nat} {c : AV} (h : L[o]? = some c) (r : List AV) : ∃ r', (L ++ r).drop o = c :: r' := by
 have aL := (dP.1 h).1
 rw [List.drop_append_of_le_length (by omega), gX aL]
 have := (dP.1 h).2
 rw [this]
 exact ⟨_, rfl⟩
section
variable {U : St} {v : AV} {l : List Nd} {i o : Nat} {x : Nd} {c gv : AV} {k : AV -> Prop} {K' : AV -> St -> Prop} {Kp : AV -> St -> Prop}
theorem AO (h : gH U v l) (hx : l[i]? = some x) (hc : (fO x)[o]? = some c) (hk : K' c U) :
 (aH (some (43, 6)) none v (.int .i64 (i : Nat))).wp K U (fun p U => (ag (some o) p).wp K U (fun q U => (av (some (false, 1)) q U).wp K U K' Kp) Kp) Kp := by
 have aL := (dP.1 hx).1
 obtain ⟨r, hr⟩ := y9 hx
 obtain ⟨r', u5⟩ := Ag hc r
 rcases h with (⟨rfl, rfl⟩ | ⟨cp, rfl⟩) | ⟨b, rfl, hb⟩
 · simp at aL
 · rw [uM, dR, hr]
   refine ⟨by omega, ?_⟩
   simp only [eH, aj, mR, u5, bq]
   exact hk
 · rw [wO, dR, bW]
   refine ⟨⟨by omega, by omega, rfl⟩, ?_⟩
   simp only [aR, aj]
   rw [eG hb, <- List.drop_drop, hr, u5, bq]
   exact hk
theorem RF (h : gH U v l) (hx : l[i]? = some x) (hc : (fO x)[o]? = some c) (hk : k c) :
 ar K (aH (some (43, 6)) none v (.int .i64 (i : Nat))) fun p => ar K (ag (some o) p) fun q => ar K (av (some (false, 1)) q U) k := by
 have aL := (dP.1 hx).1
 obtain ⟨r, hr⟩ := y9 hx
 obtain ⟨r', u5⟩ := Ag hc r
 rcases h with (⟨rfl, rfl⟩ | ⟨cp, rfl⟩) | ⟨b, rfl, hb⟩
 · simp at aL
 · rw [Gv, dR, hr]
   refine ⟨by omega, ?_⟩
   simp only [eH, aJ, tj, u5, fw]
   exact hk
 · rw [EF, dR, bW]
   refine ⟨⟨by omega, by omega, rfl⟩, ?_⟩
   simp only [aR, aJ]
   rw [jC hb, <- List.drop_drop, hr, u5, fw]
   exact hk
theorem lj {r : aw} (h : ar K r k) : ae K (.bool true) r k := by rw [aM, bG]; exact h
theorem QN (h : gH U v l) (hx : l[i]? = some x) (hc : (fO x)[o]? = some c) (hk : k c) :
 ae K (.bool true) (aH (some (43, 6)) none v (.int .i64 (i : Nat))) fun p => ae K (.bool true) (ag (some o) p) fun q => ae K (.bool true) (av (some (false, 1)) q U) k := by
 simp only [aM, bG]
 exact RF h hx hc hk
theorem SS (h : gH U v l) (hk : k (.int .i64 l.length)) : ae K (.bool true) (bD (some false) v) k := by
 rw [h.len]; exact hk
theorem c8 {x : AV} (hk : k x) : ae K (.bool true) (.val x) k := hk
end
structure eU (ay U : St) (v : AV) (e : TypeId) (sz n : Nat) (l : List AV) : Prop where
 g : Grow U v e sz n l
 z : n = 0 -> v = .ak
 t : Vy ay v
 ex : dr ay U
section
variable {ay U : St} {v y : AV} {e : TypeId} {sz n m : Nat} {l l2 : List AV} {K' : AV -> St -> Prop} {Kp : AV -> St -> Prop}
theorem eU.nil (h : dr ay U) : eU ay U .ak e sz 0 [] := ⟨.inl ⟨rfl, rfl, rfl⟩, fun _ => rfl, (fun _ _ _ e => by cases e), h⟩
theorem eU.mono {af : St} (h : eU ay U v e sz n l) (k : dr U af) : eU ay af v e sz n l := by
 refine ⟨?_, h.z, h.t, h.ex.trans k⟩
 rcases h.g with g | ⟨τ, r1, r2, r3⟩
 · exact .inl g
 · exact .inr ⟨τ, r1, k.tok r2, r3⟩
theorem Cc (h : eU ay U v e sz n l) (hy : qp U y = some (m, l2)) (hl : l2.length = m * sz) (hm : 0 < m) (hb : n + m <= 4294967296)
 (hk : ∀ af v', eU ay af v' e sz (n + m) (l ++ l2) -> (∀ b x, (∀ n l, v ≠ .vec n (.own b) l) -> U.live b = some x -> af.live b = some x) -> K' v' af) : (dc (some (e, sz)) false v y U).wp K U K' Kp := by
 refine uc h.g hy hl hm hb h.z fun af v' g e1 n1 => hk af v' ⟨g, fun hz => by omega, fun n' τ l' hv => ?_, fun b x hx => ?_⟩ e1
 · rcases n1 n' τ l' hv with hz | ⟨n2, l2', hx⟩
   · exact h.ex.fresh hz
   · exact h.t _ _ _ hx
 · exact e1 b x (fun n' l' hv => by rw [h.t _ _ _ hv] at hx; cases hx) (h.ex b x hx)
theorem eU.sl (h : eU ay U v e sz n l) : iJ v n l := by
 rcases h.g with ⟨h1, h2, h3⟩ | ⟨τ, r1, _, _⟩
 · exact .inl ⟨h1, h2, h3⟩
 · exact .inr ⟨_, r1⟩
theorem KU {e : TypeId} {x : AV} {z : AV} (hx : x.cN = true) (hc : aC x = [x]) (hk : K' (.vec 1 .full [x]) U) : (aA (some (e, 1)) (some [z]) 1 false [(0, x)]).wp K U K' Kp := by
 rw [dE]
 refine ⟨by omega, ?_⟩
 rw [c6 (o := 0) (s := 1) rfl]
 refine ⟨⟨hx, by rw [hc]; rfl, by simp [bB]⟩, ?_⟩
 rw [er, hc]
 exact ⟨rfl, hk⟩
end
def gQ (ks : List Nat) : List AV := ks.map fun k => .int .i64 (k : Nat)
theorem Mf (ks : List Nat) : (gQ ks).length = ks.length := by simp [gQ]
theorem vY {ks : List Nat} {i k : Nat} (h : ks[i]? = some k) : ∃ r, (gQ ks).drop i = .int .i64 (k : Nat) :: r := by
 have aL := (dP.1 h).1
 refine ⟨(gQ ks).drop (i + 1), ?_⟩
 rw [gX (by simpa [gQ] using aL)]
 have := (dP.1 h).2
 simp [gQ, this]
theorem yc (x : Nd) : (fO x)[5]? = some (.int .i64 x.size) := rfl
theorem Km (x : Nd) : (fO x)[0]? = some (.int .u8 x.kind) := rfl
theorem F5 {U : St} {R : cS -> St -> Prop} {v : AV} {l : List Nd} {i : Nat} {t : Tre} (hv : gH U v l) (ht : gU l i t) (hl : l.length <= 100000)
 (h : ∀ af v', eU U af v' 3 1 t.kids.length (gQ (cX (i + 1) t.kids)) -> R (.ret v') af) : ad K 67 [v, .int .i64 (i : Nat)] U R := by
 refine R9 ?_
 unfold Ub
 have hle := ht.le
 have pX := nI t
 rw [cI]
 refine ⟨bp (by omega) (by omega), ?_⟩
 obtain ⟨x, hx, _, Tr, _⟩ := ht.ru
 refine ⟨fun m v0 v1 v5 v6 af => ∃ (ks : List Nat) (rest : List Tre) (p : Nat), m = rest.length /\ v0 = v /\ v1 = .int .i64 (i : Nat) /\ v6 = .int .i64 (p : Nat) /\ eU U af v5 3 1 ks.length (gQ ks) /\ lL l p rest /\ ks ++ cX p rest = cX (i + 1) t.kids /\ p + (Tre.bV rest).length = i + t.flat.length /\ ks.length + i < p,
  ⟨_, [], t.kids, i + 1, rfl, rfl, rfl, rfl, .nil (dr.refl _), ht.kids, rfl, by omega, by simp⟩, ?_⟩
 rintro m v0 v1 v5 v6 bP ⟨ks, rest, p, rfl, rfl, rfl, rfl, hg, p4, lS, hp, qA⟩
 have L5 := hv.sO hg.ex
 refine AO L5 hx (yc x) ?_
 rw [cI, Tr]
 refine ⟨bp (by omega) (by omega), ?_⟩
 simp only [bh, aj, aT]
 refine ⟨fun aL => ?_, fun gk => ?_⟩
 · cases rest with
   | nil => simp at hp; omega
   | cons s rest =>
     obtain ⟨y, hy, _, hsy, _⟩ := p4.head.ru
     have xV := s.eh
     have BC := p4.head.le
     refine KU rfl rfl ?_
     refine Cc hg (m := 1) (l2 := [.int .i64 (p : Nat)]) rfl rfl (by omega) (by omega) fun bI v' g2 k2 => ?_
     have DF := hv.sO g2.ex
     refine AO DF hy (yc y) ?_
     rw [cI, hsy]
     refine ⟨bp (by omega) (by omega), rest.length, by simp, ks ++ [p], rest, p + s.flat.length, rfl, rfl, rfl, by simp, by simpa [gQ] using g2, p4.tail, by rw [<- lS]; simp [cX], by simp at hp; omega, by simp; omega⟩
 · cases rest with
   | cons s rest => have := s.eh; simp at hp; omega
   | nil =>
     simp only [cX, mB] at lS
     subst lS
     refine al.mk (h _ _ ?_)
     have : (cX (i + 1) t.kids).length = t.kids.length := mQ _ _
     rw [<- this]; exact hg
theorem Vl {U : St} {R : cS -> St -> Prop} {v : AV} {l : List Nd} (hv : gH U v l) (hl : l.length <= 100000)
 (hT : yV l -> R (.ret (.bool true)) U) (hF : ¬ yV l -> R (.ret (.bool false)) U) : ad K 70 [v] U R := by
 refine Sb ?_
 unfold Ud
 simp only [hv.len, aj, aV, aS]
 cases rY : l with
 | nil =>
   subst rY
   simp only [qm, show decide (((0 : Nat) : Int) = 0) = true from rfl, show (true == false) = false from rfl, aM, bz, aF, if_true, aj, aK]
   exact al.mk (hF fun h => h.1.1 rfl)
 | cons x0 r0 =>
   have cH : l ≠ [] := by rw [rY]; simp
   have hx0 : l[0]? = some x0 := by rw [rY]; rfl
   have tJ : mF l = x0.size := by rw [rY]; rfl
   rw [<- rY]
   have hlp : 0 < l.length := List.length_pos_iff.2 cH
   have : ¬ ((l.length : Int) = 0) := by omega
   simp only [this, cM, dN]
   refine c8 (QN (i := 0) hv hx0 (yc x0) ?_)
   refine c8 (SS hv ?_)
   rw [cg]
   refine c8 ?_
   simp only [aF, bH, if_false, aj]
   by_cases h0 : x0.size = l.length
   · simp only [h0, cj, cC, aE]
     refine ⟨fun m v0 v3 af => ∃ i : Nat, m = l.length - i /\ v0 = v /\ v3 = .int .i64 (i : Nat) /\ af = U /\ i <= l.length /\ ∀ j x, j < i -> l[j]? = some x -> 1 <= x.size /\ x.size <= (l.length : Int) - j, ⟨_, 0, rfl, rfl, rfl, rfl, by omega, fun j x h => by omega⟩, ?_⟩
     rintro m v0 v3 af ⟨i, rfl, rfl, rfl, rfl, hi, hj⟩
     simp only [hv.len, aj, bh, aT]
     refine ⟨fun aL => ?_, fun gk => ?_⟩
     · have aL : i < l.length := by omega
       obtain ⟨x, hx⟩ : ∃ x, l[i]? = some x := ⟨l[i], by simp [aL]⟩
       refine AO hv hx (yc x) ?_
       rw [bh]
       simp only [aj, aS]
       by_cases h1 : x.size < 1
       · simp only [h1, cj, show (true == false) = false from rfl, aM, bz, aF, if_true, aj, aK]
         exact al.mk (hF fun h => by have := (h.1.2.2 i x hx).1; omega)
       · simp only [h1, cM, dN]
         refine c8 (c8 (QN hv hx (yc x) ?_))
         refine c8 (SS hv ?_)
         refine c8 ?_
         rw [jT, hM]
         refine lj ⟨bp (by omega) (by omega), ?_⟩
         rw [aJ, eu]
         refine c8 ?_
         simp only [aF, bH, if_false, aj, aT]
         refine ⟨fun h2 => al.mk (hF fun h => by have := (h.1.2.2 i x hx).2; omega), fun h2 => ?_⟩
         rw [cI]
         refine ⟨bp (by omega) (by omega), l.length - (i + 1), by omega, i + 1, rfl, rfl, by simp, rfl, by omega, fun j y tH hy => ?_⟩
         rcases eZ j i with h | h
         · exact hj j y h hy
         · have : j = i := by omega
           subst this; rw [hx] at hy; cases hy; omega
     · have hi : i = l.length := by omega
       subst hi
       have BA : K3 l := ⟨cH, by rw [tJ, h0], fun j x hx => hj j x (dP.1 hx).1 hx⟩
       clear hj gk
       refine ⟨fun m w0 v4 bI => ∃ i : Nat, m = l.length - i /\ w0 = v0 /\ v4 = .int .i64 (i : Nat) /\ bI = af /\ i <= l.length /\ ∀ (j : Nat) x, j < i -> l[j]? = some x -> o9 l (j + x.size.toNat) l.length (j + 1) = j + x.size.toNat, ⟨_, 0, rfl, rfl, rfl, rfl, by omega, fun j x h => by omega⟩, ?_⟩
       rintro m w0 v4 bI ⟨i, rfl, rfl, rfl, rfl, hi, hj⟩
       simp only [hv.len, aj, bh, aT]
       refine ⟨fun aL => ?_, fun gk => ?_⟩
       · have aL : i < l.length := by omega
         obtain ⟨x, hx⟩ : ∃ x, l[i]? = some x := ⟨l[i], by simp [aL]⟩
         have Tr := BA.2.2 i x hx
         rw [cI]
         refine ⟨bp (by omega) (by omega), ?_⟩
         refine ⟨fun m u0 v4 v5 bQ => ∃ p f : Nat, m = f /\ u0 = w0 /\ v4 = .int .i64 (i : Nat) /\ v5 = .int .i64 (p : Nat) /\ bQ = bI /\ p <= l.length /\ l.length - p <= f /\ o9 l (i + x.size.toNat) f p = o9 l (i + x.size.toNat) l.length (i + 1), ⟨_, i + 1, l.length, rfl, rfl, rfl, rfl, rfl, by omega, by omega, rfl⟩, ?_⟩
         rintro m u0 v4 v5 bQ ⟨p, f, rfl, rfl, rfl, rfl, rfl, hp, hf, hw⟩
         refine AO hv hx (yc x) ?_
         rw [cI]
         refine ⟨bp (by omega) (by omega), ?_⟩
         simp only [aj, bh, aT]
         refine ⟨fun oR => ?_, fun hpg => ?_⟩
         · have ab0 : p < l.length := by omega
           obtain ⟨y, hy⟩ : ∃ y, l[p]? = some y := ⟨l[p], by simp [ab0]⟩
           have hsy := BA.2.2 p y hy
           refine AO hv hy (yc y) ?_
           rw [cI]
           refine ⟨bp (by omega) (by omega), ?_⟩
           cases m with
           | zero => omega
           | succ f =>
           rw [wQ hy (by omega)] at hw
           exact ⟨f, by omega, p + y.size.toNat, f, rfl, rfl, rfl, by congr 1; omega, rfl, by omega, by omega, hw⟩
         · rw [wR (by omega)] at hw
           refine AO hv hx (yc x) ?_
           rw [cI]
           refine ⟨bp (by omega) (by omega), ?_⟩
           simp only [aj, cg]
           by_cases Yq : (p : Int) = i + x.size
           · simp only [Yq, cj, cC, aE]
             rw [cI]
             refine ⟨bp (by omega) (by omega), l.length - (i + 1), by omega, i + 1, rfl, rfl, by simp, rfl, by omega, fun j z tH hz => ?_⟩
             rcases eZ j i with h | h
             · exact hj j z h hz
             · have : j = i := by omega
               subst this; rw [hx] at hz; cases hz
               rw [<- hw]; omega
           · simp only [Yq, cM, dk, aK]
             exact al.mk (hF fun h => Yq (by have := h.2 i x hx; omega))
       · have hi : i = l.length := by omega
         subst hi
         exact al.mk (hT ⟨BA, fun j x hx => hj j x (dP.1 hx).1 hx⟩)
   · simp only [h0, cM, dk, aK]
     exact al.mk (hF fun h => h0 (by rw [<- tJ]; exact h.1.2.1))
theorem Mg {out : List Nat} {k x : Nat} (h : k < out.length) : az (gQ out) k (aC (.int .i64 ((x : Nat) : Int))) = gQ (out.set k x) := by
 simp only [az, Dh, gQ, lk, qm]
 rw [List.map_set, List.set_eq_take_append_cons_drop, if_pos (by simpa using h)]
 simp
theorem abi {K' : AV -> Prop} {U : St} {v : AV} {ks : List Nat} {i k : Nat} (hv : iJ v ks.length (gQ ks)) (hk : ks[i]? = some k) (h : K' (.int .i64 (k : Nat))) :
 ar K (aH (some (3, 1)) none v (.int .i64 (i : Nat))) fun p => ar K (av (some (false, 1)) p U) K' := by
 have aL := (dP.1 hk).1
 obtain ⟨c, rfl, lD⟩ := hv.at (sz := 1) (e := 3) aL
 obtain ⟨r, hr⟩ := vY hk
 rw [lD, Nat.mul_one, hr]
 exact ⟨by omega, h⟩
theorem ZJ {K' : AV -> St -> Prop} {Kp : AV -> St -> Prop} {U : St} {v : AV} {ks : List Nat} {i k : Nat} (hv : iJ v ks.length (gQ ks)) (hk : ks[i]? = some k) (h : K' (.int .i64 (k : Nat)) U) :
 (aH (some (3, 1)) none v (.int .i64 (i : Nat))).wp K U (fun p U => (av (some (false, 1)) p U).wp K U K' Kp) Kp := by
 have aL := (dP.1 hk).1
 obtain ⟨c, rfl, lD⟩ := hv.at (sz := 1) (e := 3) aL
 obtain ⟨r, hr⟩ := vY hk
 rw [lD, Nat.mul_one, hr]
 exact ⟨by omega, h⟩
theorem Qw {U : St} {R : cS -> St -> Prop} {v : AV} {t : Tre} (hv : gH U v t.flat) (hl : t.flat.length <= 60000)
 (h : ∀ b af, U.live b = none -> af.box b = some (gQ (nF 0 t)) -> dr U af -> R (.ret (.ms b 0 t.flat.length 1 3)) af) : ad K 73 [v] U R := by
 refine Se ?_
 unfold Ug
 simp only [hv.len, aj, sh, if_true, wp_cond, oc]
 refine ⟨by simp only [true_and]; omega, fun b hb => ?_⟩
 have hDl := uk 0 t
 have hz : bB ((t.flat.length : Int)).toNat [AV.int .i64 0] = gQ (List.replicate t.flat.length 0) := by
  rw [dR]
  simp only [gQ, List.map_replicate]
  generalize t.flat.length = n
  induction n with
  | zero => rfl
  | succ n ih => rw [List.replicate_succ, <- ih]; rfl
 rw [hz]
 simp only [NV.at, dR]
 have hY : (U.new b (.box (gQ (List.replicate t.flat.length 0)))).box b = some (gQ (List.replicate t.flat.length 0)) := aW
 have e1 := cE hb (x := .box (gQ (List.replicate t.flat.length 0)))
 have f1 := hb.1
 generalize U.new b (.box (gQ (List.replicate t.flat.length 0))) = bP at *
 let P (i j : Nat) : Prop := j = 0 \/ ∃ i' s', i' < i /\ gU t.flat i' s' /\ j ∈ cX (i' + 1) s'.kids
 have hD0 : (nF 0 t)[0]? = some 0 := by cases t; simp [uT]
 refine ⟨fun m v0 v3 v4 af => ∃ (i : Nat) (out : List Nat), m = t.flat.length - i /\ v0 = v /\ v3 = .ms b 0 t.flat.length 1 3 /\ v4 = .int .i64 (i : Nat) /\ i <= t.flat.length /\ af.box b = some (gQ out) /\ out.length = t.flat.length /\ dr U af /\ ∀ j, j < t.flat.length -> P i j -> out[j]? = (nF 0 t)[j]?,
  ⟨_, 0, List.replicate t.flat.length 0, rfl, rfl, rfl, rfl, by omega, hY, by simp, e1, fun j hj hp => ?_⟩, ?_⟩
 · rcases hp with rfl | ⟨i', _, iM, _⟩
   · rw [hD0]; simp [hj]
   · omega
 clear hY e1
 rintro m w v3 v4 bI ⟨i, out, rfl, rfl, rfl, rfl, hi, nx, DC, e2, hP⟩
 have DF := hv.sO e2
 simp only [DF.len, aj, bh, aT]
 refine ⟨fun aL => ?_, fun gk => ?_⟩
 · have aL : i < t.flat.length := by omega
   obtain ⟨⟨s, e, hs, hDe, hDk, hei⟩, abZ⟩ := place t aL
   have FG : out[i]? = some e := by
    rw [hP i aL ?_, hDe]
    rcases abZ with h | ⟨i', s', h1, h2, h3⟩
    · exact .inl h
    · exact .inr ⟨i', s', h1, h2, h3⟩
   have BC := hs.le
   have hkk := Tre.pB s.kids
   have hsf := nI s
   refine F5 DF hs (by omega) fun bQ v5 g3 => ?_
   have qA : (cX (i + 1) s.kids).length = s.kids.length := mQ _ _
   have L6 : iJ v5 (cX (i + 1) s.kids).length (gQ (cX (i + 1) s.kids)) := by rw [qA]; exact g3.sl
   have Yt : ∀ k ∈ cX (i + 1) s.kids, i < k /\ k < t.flat.length := by
    have : ∀ (ts : List Tre) (p : Nat), lL t.flat p ts -> ∀ k ∈ cX p ts, p <= k /\ k < t.flat.length := by
     intro ts
     induction ts with
     | nil => intro p _ k hk; simp [cX] at hk
     | cons u ts ih =>
       intro p p4 k hk
       simp only [cX, fC] at hk
       rcases hk with rfl | hk
       · have := p4.head.le; have := u.eh; omega
       · have := ih _ p4.tail k hk; omega
    intro k hk
    have := this _ _ hs.kids k hk
    omega
   simp only [bg]
   generalize lS : cX (i + 1) s.kids = ks at *
   have e3 := e2.trans g3.ex
   have XU := g3.ex.bU nx
   refine ⟨fun m w0 w3 w4 w5 w6 af => ∃ (q : Nat) (wk : List Nat), m = ks.length - q /\ w0 = w /\ w3 = .ms b 0 t.flat.length 1 3 /\ w4 = .int .i64 (i : Nat) /\ w5 = v5 /\ w6 = .int .i64 (q : Nat) /\ q <= ks.length /\ af.box b = some (gQ wk) /\ wk.length = t.flat.length /\ dr U af /\ wk[i]? = some e /\ (∀ j, j < t.flat.length -> P i j -> wk[j]? = (nF 0 t)[j]?) /\ ∀ q' j, q' < q -> ks[q']? = some j -> wk[j]? = some (e + 1),
    ⟨_, 0, out, rfl, rfl, rfl, rfl, rfl, rfl, by omega, XU, DC, e3, FG, hP, fun q' j h => by omega⟩, ?_⟩
   clear XU e3 nx hP FG DC
   rintro m w0 w3 w4 w5 w6 cz ⟨q, wk, rfl, rfl, rfl, rfl, rfl, rfl, hq, nx, DC, e4, FG, hP, hQ⟩
   have aaR : bD (some false) w5 = .val (.int .i64 ks.length) := L6.len
   simp only [aaR, aj, bh, aT]
   refine ⟨fun mr => ?_, fun ac7 => ?_⟩
   · have mr : q < ks.length := by omega
     obtain ⟨lW, Am⟩ : ∃ lW, ks[q]? = some lW := ⟨ks[q], by simp [mr]⟩
     have Dy := Yt lW (gK Am)
     refine abi L6 Am ?_
     rw [EF]
     refine ⟨⟨by omega, by omega, rfl⟩, ?_⟩
     obtain ⟨r, hr⟩ := vY FG
     rw [jC nx, dR, Nat.mul_one, bW, hr, fw, zc]
     refine ⟨bp (by omega) (by omega), ?_⟩
     rw [EF]
     refine ⟨⟨by omega, by omega, rfl⟩, ?_⟩
     rw [dR, Nat.mul_one, bW, cT nx]
     refine ⟨⟨rfl, rfl, by rw [Mf]; omega⟩, ?_⟩
     have vT := Mg (out := wk) (k := lW) (x := e + 1) (by omega)
     rw [show (((e + 1 : Nat) : Int)) = (e : Int) + 1 by omega] at vT
     rw [vT, cI]
     refine ⟨bp (by omega) (by omega), ks.length - (q + 1), by omega, q + 1, wk.set lW (e + 1), rfl, rfl, rfl, rfl, rfl, by simp, mr, bf, by simpa using DC, e4.set f1, ?_, fun j hj hp => ?_, fun q' j Tm hj => ?_⟩
     · rw [List.getElem?_set_ne (by omega)]; exact FG
     · by_cases Br : lW = j
       · subst Br
         rw [List.getElem?_set_self (by omega)]
         exact (hDk.cX lW (by rw [lS]; exact gK Am)).symm
       · rw [List.getElem?_set_ne Br]; exact hP j hj hp
     · by_cases Br : lW = j
       · subst Br
         rw [List.getElem?_set_self (by omega)]
       · rw [List.getElem?_set_ne Br]
         rcases eZ q' q with h | h
         · exact hQ q' j h hj
         · have : q' = q := by omega
           subst this; rw [Am] at hj; cases hj; exact absurd rfl Br
   · have hq : q = ks.length := by omega
     subst hq
     rw [cI]
     refine ⟨bp (by omega) (by omega), t.flat.length - (i + 1), by omega, i + 1, wk, rfl, rfl, rfl, by simp, aL, nx, DC, e4, fun j hj hp => ?_⟩
     rcases hp with hp | ⟨i', s', h1, h2, h3⟩
     · exact hP j hj (.inl hp)
     · rcases eZ i' i with h | h
       · exact hP j hj (.inr ⟨i', s', h, h2, h3⟩)
       · have : i' = i := by omega
         subst this
         have := h2.inj hs
         subst this
         have hm : j ∈ ks := by rw [<- lS]; exact h3
         obtain ⟨q', Tm, LS⟩ := List.getElem_of_mem hm
         rw [hQ q' j Tm (by rw [<- LS]; simp)]
         exact (hDk.cX j h3).symm
 · have hi : i = t.flat.length := by omega
   subst hi
   have : out = nF 0 t := by
    refine List.ext_getElem? fun j => ?_
    rcases eZ j t.flat.length with hj | hj
    · refine hP j hj ?_
      rcases (place t hj).2 with h | ⟨i', s', h1, h2, h3⟩
      · exact .inl h
      · exact .inr ⟨i', s', by omega, h2, h3⟩
    · rw [l9 (by omega), l9 (by omega)]
   subst this
   exact al.mk (h b bI f1 nx e2)
end Go.Rip
namespace Go.Rip
open Go.Proofs Go.RowKit
theorem JI {c : Prop} [Decidable c] {x : AV} {f : AV -> aw} {q : Bool} {U : St} {K' : AV -> St -> Prop} {Kp : AV -> St -> Prop} (hf : c -> f x = .val (.bool q)) (hk : K' (.bool (decide c && q)) U) :
 ae K (au (.bool (decide c)) true) (aw.val x) fun v6 => ae K (au (.bool (decide c)) true) (f v6) fun v7 => (aY (.bool (decide c)) v7 (.bool false)).wp K U K' Kp := by
 by_cases hc : c
 · simp only [hc, cj, aS, dN, aM, bG, aJ, hf hc, aF, if_true, aj]
   simpa [hc] using hk
 · simp only [hc, cM, aS, show (false == true) = false from rfl, aM, bz, aF, bH, if_false, aj]
   simpa [hc] using hk
theorem CG {p : Bool} {x : AV} {f : AV -> aw} {q : Bool} {U : St} {K' : AV -> St -> Prop} {Kp : AV -> St -> Prop} (hf : p = false -> f x = .val (.bool q)) (hk : K' (.bool (p || q)) U) :
 ae K (au (.bool p) false) (aw.val x) fun v6 => ae K (au (.bool p) false) (f v6) fun v7 => (aY (.bool p) (.bool true) v7).wp K U K' Kp := by
 cases p with
 | true =>
   simp only [aS, show (true == false) = false from rfl, aM, bz, aF, if_true, aj]
   simpa using hk
 | false =>
   simp only [aS, dN, aM, bG, aJ, hf rfl, aF, bH, if_false, aj]
   simpa using hk
theorem rm (k : Int) : Pure K 141 [.int .u8 k] (.bool (lU k)) := by
 intro U R hR
 refine N5 ?_
 unfold N4
 rw [aV, aj]
 refine CG (fun _ => aV ..) (al.eq hR ?_)
 simp only [lU, AV.bool.injEq]; grind
theorem nf (k : Int) : Pure K 142 [.int .u8 k] (.bool (dZ k)) := by
 intro U R hR
 refine N7 ?_
 unfold N6
 rw [fg, aj]
 refine JI (fun _ => iW ..) (al.eq hR ?_)
 simp only [dZ, AV.bool.injEq]; grind
theorem Hu (k : Int) : Pure K 191 [.int .u8 k] (.bool (ke k)) := by
 intro U R hR
 refine Pb ?_
 unfold Pa
 rw [fg, aj]
 refine JI (fun _ => iW ..) (al.eq hR ?_)
 simp only [ke, AV.bool.injEq]; grind
theorem Hw (k : Int) : Pure K 139 [.int .u8 k] (.bool (sB k)) := by
 intro U R hR
 refine N1 ?_
 unfold N0
 refine (rm k).go ?_
 refine CG (fun _ => aV ..) (al.eq hR ?_)
 simp only [lU, sB, AV.bool.injEq]; grind
def rj (k : Int) : Bool := decide (k = 6 \/ k = 7 \/ k = 12 \/ k = 14 \/ k = 25 \/ k = 26)
theorem xJ (k : Int) : Pure K 136 [.int .u8 k] (.bool (rj k)) := by
 intro U R hR
 refine NU ?_
 unfold NT
 refine (rm k).go ?_
 refine CG (fun _ => aV ..) ?_
 refine CG (fun _ => aV ..) ?_
 refine CG (fun _ => aV ..) ?_
 refine CG (fun _ => aV ..) (al.eq hR ?_)
 simp only [lU, rj, AV.bool.injEq]; grind
theorem BG (n : Int) : Pure K 137 [.int .i64 n] (.bool (ga n)) := by
 intro U R hR
 refine NX ?_
 unfold NW
 rw [fg, aj]
 refine JI (fun _ => iW ..) (al.eq hR ?_)
 simp only [ga, AV.bool.injEq]; grind
def kF (k : Int) : Bool := decide (k = 2 \/ k = 3 \/ k = 4 \/ k = 5 \/ k = 12 \/ k = 13 \/ k = 14 \/ k = 16 \/ k = 31 \/ k = 32 \/ k = 33 \/ k = 34 \/ k = 37)
theorem Lz (k : Int) : Pure K 134 [.int .u8 k] (.bool (kF k)) := by
 intro U R hR
 refine NQ ?_
 unfold NP
 intro j hj
 simp only [aV, aj, aT]
 have yes : kF k = true -> ∀ b, b = true -> j (.bool b) U := fun h b hb => by
  subst hb
  refine hj _ _ ?_
  simp only [aK]
  rw [h] at hR; exact al.mk hR
 have no : kF k = false -> ∀ b, b = false -> j (.bool b) U := fun h b hb => by
  subst hb
  refine hj _ _ ?_
  simp only [aE]
  rw [h] at hR; exact al.mk hR
 iterate 12
  refine ⟨fun h => yes (by simp only [kF, ej]; omega) _ (by simpa using h), fun _ => ?_⟩
 by_cases h : k = 37
 · exact yes (by simp only [kF, ej]; omega) _ (by simpa using h)
 · exact no (by simp only [kF, decide_eq_false_iff_not]; omega) _ (by simpa using h)
theorem F2 (n : Nat) (s : aZ) (a : Int) (hs : s.length <= 100000) : Pure K 211 [.agg [.int .u8 n, .str s, .int .i64 a]] (.bool (decide (s ≠ [] /\ gx s = (0, n, s)))) := by
 refine Pure.of rfl rfl (fun U => rfl) fun R hR => ?_
 refine Pd ?_
 unfold Pc
 rw [jR rfl]
 intro b1 hY
 have m1 : ((bX ⟨.e, 0⟩).new b1 (.box (aC (.agg [.int .u8 n, .str s, .int .i64 a])))).box b1 = some [.int .u8 n, .str s, .int .i64 a] := aW
 generalize (bX _).new b1 _ = ay at *
 clear hY
 simp only [aR, aj, bW]
 rw [eG m1]
 simp only [List.drop, bq, iV, aj, aT, aR, bW]
 refine ⟨fun h0 => ?_, fun h0 => ?_⟩
 · have h0 : s = [] := h0
   refine al.eq (hR _) ?_
   simp [h0]
 · have h0 : s ≠ [] := h0
   rw [eG m1]
   simp only [List.drop, bq]
   refine (D7 s 0 (by omega) hs).go ?_
   rw [eR]
   have key : ∀ (c1 : List AV) (e : Int), o7 (gx s) 0 = .aU [.agg c1, .int .i64 e] -> c1.length = 3 -> (∃ (k2 : Nat) (t2 : aZ) (a2 : Int), c1 = [.int .u8 k2, .str t2, .int .i64 a2] /\ (decide (s ≠ [] /\ gx s = (0, n, s)) = (decide (e = 0) && (decide ((k2 : Int) = n) && decide (t2 = s))))) ->
    (aX (.aU [.agg c1, .int .i64 e]) 0).wp K ay (fun v12 U =>
   (aX (.aU [.agg c1, .int .i64 e]) 1).wp K U (fun bN U =>
   (aw.cJ [AV.int .u8 0, AV.str [], AV.int .i64 0]).wp K U (fun v3 U =>
   (aD (some (true, 3)) v3 v12 U).wp K U (fun _ U =>
   (aq .eql (BT.mk false false false none) true bN (AV.int .i64 0)).wp K U (fun bw U =>
   ae K (au bw true) (ag (some 0) v3) (fun cm =>
   ae K (au bw true) (av (some (false, 1)) cm U) (fun ck =>
   ae K (au bw true) (ag (some 0) (.box b1 0)) (fun cn =>
   ae K (au bw true) (av (some (false, 1)) cn U) (fun v20 =>
   ae K (au bw true) (aq .eql (BT.mk false false false none) false ck v20) (fun v21 =>
   (aY bw v21 (AV.bool false)).wp K U (fun bY U =>
   ae K (au bY true) (ag (some 1) v3) (fun v24 =>
   ae K (au bY true) (av (some (false, 1)) v24 U) (fun dz =>
   ae K (au bY true) (ag (some 1) (.box b1 0)) (fun df =>
   ae K (au bY true) (av (some (false, 1)) df U) (fun di =>
   ae K (au bY true) (aq .eql (BT.mk false false false none) false dz di) (fun v28 =>
   (aY bY v28 (AV.bool false)).wp K U (fun cO U =>
   al R cO U) (aa R))))))) (aa R))))))) (aa R)) (aa R)) (aa R)) (aa R)) (aa R) := by
    rintro c1 e - zC ⟨k2, t2, a2, rfl, hd⟩
    simp only [bC, List.drop, bq]
    rw [du]
    intro b3 lB
    have n31 := lB.da m1
    have m3 : (ay.new b3 (.box [AV.int .u8 0, AV.str [], AV.int .i64 0])).box b3 = some [AV.int .u8 0, AV.str [], AV.int .i64 0] := aW
    have MA := (cE lB (x := .box [AV.int .u8 0, AV.str [], AV.int .i64 0])).bU m1
    generalize ay.new b3 (.box [AV.int .u8 0, AV.str [], AV.int .i64 0]) = bP at *
    rw [cT m3]
    refine ⟨⟨rfl, rfl, by simp⟩, ?_⟩
    have g3 : (bP.set b3 (.box (az [AV.int .u8 0, AV.str [], AV.int .i64 0] 0 (aC (.agg [.int .u8 k2, .str t2, .int .i64 a2]))))).box b3 = some [.int .u8 k2, .str t2, .int .i64 a2] := by rw [bf]; rfl
    have g1 : (bP.set b3 (.box (az [AV.int .u8 0, AV.str [], AV.int .i64 0] 0 (aC (.agg [.int .u8 k2, .str t2, .int .i64 a2]))))).box b1 = some [.int .u8 n, .str s, .int .i64 a] := by rw [bK n31]; exact MA
    generalize bP.set b3 (.box (az [AV.int .u8 0, AV.str [], AV.int .i64 0] 0 (aC (.agg [.int .u8 k2, .str t2, .int .i64 a2])))) = bI at *
    simp only [aV, aj]
    rw [hd] at hR
    by_cases he : e = 0
    · simp only [he, cj, aS, dN, aM, bG, aR, aJ, bW, jC g3, jC g1, List.drop, fw, aV, aF, if_true, aj]
      by_cases hk : (k2 : Int) = n
      · simp only [hk, cj, aS, dN, aM, bG, aR, aJ, bW, jC g3, jC g1, List.drop, fw, iV, aF, if_true, aj]
        refine al.eq (hR _) ?_
        simp [he, hk]
      · simp only [hk, cM, aS, show (false == true) = false from rfl, aM, bz, aF, bH, if_false, aj]
        refine al.eq (hR _) ?_
        simp [he, hk]
    · simp only [he, cM, aS, show (false == true) = false from rfl, aM, bz, aF, bH, if_false, aj]
      refine al.eq (hR _) ?_
      simp [he]
   obtain ⟨⟨e, k2, t2⟩, ht⟩ : ∃ p, gx s = p := ⟨_, rfl⟩
   rw [ht]
   unfold o7
   by_cases he : e = 0
   · rw [if_pos he]
     refine key _ _ ?_ rfl ⟨k2, t2, _, rfl, ?_⟩
     · unfold o7; rw [ht, if_pos he]
     · have e3 : ((k2 : Int) = (n : Int)) = (k2 = n) := by simp; omega
       simp only [ht, lq, he, e3]; simp [h0]
   · rw [if_neg he]
     refine key _ _ ?_ rfl ⟨0, [], 0, rfl, ?_⟩
     · unfold o7; rw [ht, if_neg he]
     · rw [ht]; simp [he]
theorem Hv (s : aZ) (hs : s.length <= 100000) : Pure K 135 [.str s] (.bool (nN s)) := by
 intro U R hR
 refine NS ?_
 unfold NR
 refine gz [.int .u8 1, .str s, .int .i64 0] rfl ?_
 refine (F2 1 s 0 hs).go ?_
 refine al.eq hR ?_
 unfold nN
 have : gx s = (0, 1, s) -> s ≠ [] := fun h e => by subst e; revert h; decide
 rw [AV.bool.injEq, decide_eq_decide]
 exact ⟨fun h => h.2, fun h => ⟨this h, h⟩⟩
end Go.Rip
namespace Go.Rip
open Go.Proofs Go.RowKit
def jN (ks : List Int) : List AV := ks.map (.int .u8)
theorem IB {ks : List Int} {i : Nat} {k : Int} (h : ks[i]? = some k) : ∃ r, (jN ks).drop i = .int .u8 k :: r := by
 have aL := (dP.1 h).1
 refine ⟨(jN ks).drop (i + 1), ?_⟩
 rw [gX (by simpa [jN] using aL)]
 have := (dP.1 h).2
 simp [jN, this]
section
variable {U : St} {v : AV} {ks : List Int} {i : Nat} {k : Int} {e : Nat} {K' : AV -> St -> Prop} {Kp : AV -> St -> Prop} {kq : AV -> Prop}
theorem SI (hv : iJ v ks.length (jN ks)) (hk : ks[i]? = some k) (h : K' (.int .u8 k) U) :
 (aH (some (e, 1)) none v (.int .i64 (i : Nat))).wp K U (fun p U => (av (some (false, 1)) p U).wp K U K' Kp) Kp := by
 have aL := (dP.1 hk).1
 obtain ⟨c, rfl, lD⟩ := hv.at (sz := 1) (e := e) aL
 obtain ⟨r, hr⟩ := IB hk
 rw [lD, Nat.mul_one, hr]
 exact ⟨by omega, h⟩
theorem Fq (hv : iJ v ks.length (jN ks)) (hk : ks[i]? = some k) (h : kq (.int .u8 k)) :
 ae K (.bool true) (aH (some (e, 1)) none v (.int .i64 (i : Nat))) fun p => ae K (.bool true) (av (some (false, 1)) p U) kq := by
 have aL := (dP.1 hk).1
 obtain ⟨c, rfl, lD⟩ := hv.at (sz := 1) (e := e) aL
 obtain ⟨r, hr⟩ := IB hk
 rw [lD, Nat.mul_one, hr]
 exact lj ⟨by omega, lj h⟩
theorem mX {f : FuncId} {args : List AV} {x : AV} (h : Pure K f args x) (hk : kq x) : ae K (.bool true) (aw.enter f args) kq := lj ⟨x, h, hk⟩
end
theorem Cs {f : FuncId} {p : Int -> Bool} {U : St} {R : cS -> St -> Prop} {v : AV} {ks : List Int} (hv : iJ v ks.length (jN ks)) (hl : ks.length <= 100000) (hp : ∀ k, Pure K f [.int .u8 k] (.bool (p k))) (h : R (.ret (.bool (ks.all p))) U) :
 cD 2 [v, (AV.int .i64 0)] U fun lp v0 v3 U =>
 (bD (some false) v0).wp K U (fun v6 U =>
 (aq .lss (BT.mk false false false none) false v3 v6).wp K U (fun v7 U =>
 ao v7 (
  (aH (some (5, 1)) none v0 v3).wp K U (fun v12 U =>
  (av (some (false, 1)) v12 U).wp K U (fun bN U =>
  ad K f [bN] U (ai (fun bS U =>
  (fZ .not bS).wp K U (fun bw U =>
  ao bw (
   al R (AV.bool false) U) (
   (aq .add (BT.mk false false false none) true v3 (AV.int .i64 1)).wp K U (fun v9 U =>
   lp v0 v9 U) (aa R))) (aa R)) (aa R))) (aa R)) (aa R)) (
  al R (AV.bool true) U)) (aa R)) (aa R) := by
 refine ⟨fun m v0 v3 af => ∃ i : Nat, m = ks.length - i /\ i <= ks.length /\ v0 = v /\ v3 = .int .i64 (i : Nat) /\ af = U /\ (ks.take i).all p = true, ⟨_, 0, rfl, by omega, rfl, rfl, rfl, by simp⟩, ?_⟩
 rintro m v0 v3 af ⟨i, rfl, hi, rfl, rfl, rfl, cq⟩
 have hlen : bD (some false) v0 = .val (.int .i64 ks.length) := hv.len
 simp only [hlen, bh, aj, aT]
 refine ⟨fun aL => ?_, fun gk => ?_⟩
 · have aL : i < ks.length := by omega
   have hx : ks[i]? = some ks[i] := by simp [aL]
   refine SI hv hx ((hp _).go ?_)
   simp only [cZ, aj]
   cases u4 : p ks[i] with
   | true =>
     simp only [cC, aE, cI]
     refine ⟨bp (by omega) (by omega), ks.length - (i + 1), by omega, i + 1, rfl, by omega, rfl, by simp, rfl, ?_⟩
     rw [qS, hx, List.all_append, cq]; simp [u4]
   | false =>
     simp only [dk, aK]
     have : ks.all p = false := by
      cases hb : ks.all p with
      | false => rfl
      | true => rw [eY] at hb; rw [hb _ (qU aL)] at u4; cases u4
     rw [this] at h; exact al.mk h
 · have hi : i = ks.length := by omega
   subst hi
   rw [ql] at cq
   rw [cq] at h; exact al.mk h
section
variable {v : AV} {ks : List Int}
theorem EU (hv : iJ v ks.length (jN ks)) (hl : ks.length <= 100000) : Pure K 138 [v] (.bool (ks.all ke)) := fun U R hR => by
 refine NZ ?_; unfold NY; exact Cs hv hl Hu hR
theorem ET (hv : iJ v ks.length (jN ks)) (hl : ks.length <= 100000) : Pure K 143 [v] (.bool (ks.all lU)) := fun U R hR => by
 refine N9 ?_; unfold N8; exact Cs hv hl rm hR
theorem pS (hv : iJ v ks.length (jN ks)) (hl : ks.length <= 100000) : Pure K 144 [v] (.bool (ks.all dZ)) := fun U R hR => by
 refine Ob ?_; unfold Oa; exact Cs hv hl nf hR
theorem Jl (hv : iJ v ks.length (jN ks)) (hl : ks.length <= 100000) (c : Int) : Pure K 140 [v, .int .u8 c] (.bool (ks.all fun k => decide (k = c))) := fun U R h => by
 refine N3 ?_
 unfold N2
 refine ⟨fun m v0 v1 v3 af => ∃ i : Nat, m = ks.length - i /\ i <= ks.length /\ v0 = v /\ v1 = .int .u8 c /\ v3 = .int .i64 (i : Nat) /\ af = U /\ (ks.take i).all (fun k => decide (k = c)) = true, ⟨_, 0, rfl, by omega, rfl, rfl, rfl, rfl, by simp⟩, ?_⟩
 rintro m v0 v1 v3 af ⟨i, rfl, hi, rfl, rfl, rfl, rfl, cq⟩
 have hlen : bD (some false) v0 = .val (.int .i64 ks.length) := hv.len
 simp only [hlen, bh, aj, aT]
 refine ⟨fun aL => ?_, fun gk => ?_⟩
 · have aL : i < ks.length := by omega
   have hx : ks[i]? = some ks[i] := by simp [aL]
   refine SI hv hx ?_
   rw [cg, aj]
   by_cases u4 : ks[i] = c
   · simp only [u4, cj, cC, aE, cI]
     refine ⟨bp (by omega) (by omega), ks.length - (i + 1), by omega, i + 1, rfl, by omega, rfl, rfl, by simp, rfl, ?_⟩
     rw [qS, hx, List.all_append, cq]; simp [u4]
   · simp only [u4, cM, dk, aK]
     have : ks.all (fun k => decide (k = c)) = false := by
      cases hb : ks.all (fun k => decide (k = c)) with
      | false => rfl
      | true => rw [eY] at hb; exact absurd (of_decide_eq_true (hb _ (qU aL))) u4
     rw [this] at h; exact al.mk h
 · have hi : i = ks.length := by omega
   subst hi
   rw [ql] at cq
   rw [cq] at h; exact al.mk h
theorem Ha (hv : iJ v ks.length (jN ks)) (hl : ks.length <= 100000) : Pure K 145 [v] (.bool (ks.all jG)) := fun U R h => by
 refine Od ?_
 unfold Oc
 refine ⟨fun m v0 v3 af => ∃ i : Nat, m = ks.length - i /\ i <= ks.length /\ v0 = v /\ v3 = .int .i64 (i : Nat) /\ af = U /\ (ks.take i).all jG = true, ⟨_, 0, rfl, by omega, rfl, rfl, rfl, by simp⟩, ?_⟩
 rintro m v0 v3 af ⟨i, rfl, hi, rfl, rfl, rfl, cq⟩
 have hlen : bD (some false) v0 = .val (.int .i64 ks.length) := hv.len
 simp only [hlen, bh, aj, aT]
 refine ⟨fun aL => ?_, fun gk => ?_⟩
 · have aL : i < ks.length := by omega
   have hx : ks[i]? = some ks[i] := by simp [aL]
   have Aj : jG ks[i] = true -> (aq .add (BT.mk false false false none) true (.int .i64 (i : Nat)) (AV.int .i64 1)).wp K af (fun v9 U => (∃ m', m' < ks.length - i /\ ∃ Tx : Nat, m' = ks.length - Tx /\ Tx <= ks.length /\ v0 = v0 /\ v9 = .int .i64 (Tx : Nat) /\ U = af /\ (ks.take Tx).all jG = true)) (aa R) := fun u4 => by
    rw [cI]
    refine ⟨bp (by omega) (by omega), ks.length - (i + 1), by omega, i + 1, rfl, by omega, rfl, by simp, rfl, ?_⟩
    rw [qS, hx, List.all_append, cq]; simp [u4]
   have bad : jG ks[i] = false -> al R (AV.bool false) af := fun u4 => by
    have : ks.all jG = false := by
     cases hb : ks.all jG with
     | false => rfl
     | true => rw [eY] at hb; rw [hb _ (qU aL)] at u4; cases u4
    rw [this] at h; exact al.mk h
   refine SI hv hx ((nf _).go ?_)
   simp only [cZ, aj]
   cases ht : dZ ks[i] with
   | true =>
     simp only [cC, aS, show (false == true) = false from rfl, aM, bz, aF, bH, if_false, aj, aE]
     exact Aj (by simp only [dZ, jG, ej] at ht ⊢; omega)
   | false =>
     simp only [dk, aS, dN]
     refine c8 (c8 (Fq hv hx ?_))
     rw [cg]
     refine c8 ?_
     simp only [aF, if_true, aj]
     by_cases h5 : ks[i] = 35
     · simp only [h5, cj, cC, aS, show (false == true) = false from rfl, aM, bz, aF, bH, if_false, aj, aE]
       exact Aj (by rw [h5]; rfl)
     · simp only [h5, cM, dk, aS, dN]
       refine c8 (c8 (Fq hv hx ?_))
       rw [cg]
       refine c8 ?_
       simp only [aF, if_true, aj]
       by_cases h6 : ks[i] = 36
       · simp only [h6, cj, cC, aE]
         exact Aj (by rw [h6]; rfl)
       · simp only [h6, cM, dk, aK]
         exact bad (by simp only [dZ, jG, decide_eq_false_iff_not] at ht ⊢; omega)
 · have hi : i = ks.length := by omega
   subst hi
   rw [ql] at cq
   rw [cq] at h; exact al.mk h
end
end Go.Rip
