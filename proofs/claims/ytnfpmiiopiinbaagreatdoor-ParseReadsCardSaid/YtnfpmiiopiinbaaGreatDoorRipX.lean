/- Lemmas for the proof: no conditions. -/
import Derived.Test.YtnfpmiiopiinbaaGreatDoorRipZz
import Derived.Test.YtnfpmiiopiinbaaGreatDoorRipW
import Derived.Test.YtnfpmiiopiinbaaGreatDoorRipU
import Derived.Test.YtnfpmiiopiinbaaGreatDoorRipR
import Derived.Test.YtnfpmiiopiinbaaGreatDoorRipL
import Derived.Test.YtnfpmiiopiinbaaGreatDoorRipJ
set_option linter.unusedVariables false
set_option linter.unusedSimpArgs false
set_option linter.loopingSimpArgs false
namespace Go.Rip
open Go.Proofs Go.RowKit
section
variable {ay U : St} {v y : AV} {e : TypeId} {sz n m : Nat} {l l2 : List AV} {K' : AV -> St -> Prop} {Kp : AV -> St -> Prop}
theorem G5 (h : eU ay U v e sz n l) (hy : qp U y = some (m, l2)) (hl : l2.length = m * sz) (hb : n + m <= 4294967296)
 (hk : ∀ af v', eU ay af v' e sz (n + m) (l ++ l2) -> (∀ b x, (∀ n l, v ≠ .vec n (.own b) l) -> U.live b = some x -> af.live b = some x) -> K' v' af) : (dc (some (e, sz)) false v y U).wp K U K' Kp := by
 by_cases hm : 0 < m
 · exact Cc h hy hl hm hb hk
 · have hm : m = 0 := by omega
   subst hm
   have rE : l2 = [] := tk.1 (by omega)
   subst rE
   have xP : ∀ af v', eU ay af v' e sz n l -> (∀ b x, (∀ n l, v ≠ .vec n (.own b) l) -> U.live b = some x -> af.live b = some x) -> K' v' af := fun af v' g => hk af v' (by simpa using g)
   rcases h.g with ⟨rfl, rfl, rfl⟩ | ⟨τ, rfl, ht, Bu⟩
   · simp only [dc, hy, if_true, wp_cond, aj]
     exact ⟨by simp, xP _ _ h fun _ _ _ hx => hx⟩
   · have xS : n ≠ 0 := fun e => by have := h.z e; cases this
     simp only [dc, hy, wp_cond]
     refine ⟨by simp, ⟨ht, Bu, hb⟩, fun b eA => ?_⟩
     have hf : (U.del τ).live b = none := eA.1
     have Bt : ∀ c x, c ≠ τ -> U.live c = some x -> ((U.del τ).new b (.tok ⟨n, e, sz⟩)).live c = some x := fun c x hc hx => by
      refine (cE eA) c x ?_
      show (U.del τ).live c = some x
      rw [jz, if_neg hc]; exact hx
     refine xP _ _ ⟨.inr ⟨b, ?_, wG, Bu⟩, fun hz => absurd hz xS, fun n' sb l' hv => ?_, fun c x hx => ?_⟩ fun c x hc hx => ?_
     · show AV.vec (n + 0) (.own b) (l ++ []) = _
       simp
     · simp only [NV.at, AV.vec.injEq, kh.own.injEq] at hv
       rw [<- hv.2.1]
       by_cases LB : b = τ
       · subst LB; exact h.t _ _ _ rfl
       · rw [jz, if_neg LB] at hf
         exact h.ex.fresh hf
     · refine Bt c x (fun e => ?_) (h.ex c x hx)
       subst e
       rw [h.t _ _ _ rfl] at hx; cases hx
     · exact Bt c x (fun e => hc n l (by rw [e])) hx
end
theorem eU.lW {ay U : St} {v : AV} {ns : List Nd} (h : eU ay U v 43 6 ns.length (bJ ns)) : gH U v ns := by
 rcases h.g with ⟨h1, h2, h3⟩ | ⟨τ, r1, _, _⟩
 · exact .inl (.inl ⟨h3, tk.1 h1⟩)
 · exact .inl (.inr ⟨_, r1⟩)
theorem Ks {s : aZ} (h : nN s = true) : s.length <= 12 := by
 unfold nN at h
 rw [ej] at h
 rcases yI h with h | h | h | h
 · exact h.2.2.1
 · omega
 · omega
 · omega
theorem yh : ∀ (N : Nat) (ts : List Tre), (Tre.bV ts).length <= N -> Tre.r9 ts = true -> ∀ x ∈ Tre.bV ts, x.text.length <= 12
 | _, [], _, _ => by simp
 | 0, t :: ts, hN, _ => by have := t.eh; simp only [Tre.dj, eQ] at hN; omega
 | N + 1, .mk k tx n m a ks :: ts, hN, ho => by
   simp only [Tre.dj, Tre.fG, eQ, lk] at hN
   rw [Tre.td, Tre.ok] at ho
   simp only [cF] at ho
   obtain ⟨⟨h1, h2⟩, h3⟩ := ho
   have e1 := yh N ks (by omega) h2
   have e2 := yh N ts (by omega) h3
   intro x hx
   simp only [Tre.dj, Tre.fG, nT, fC, gg] at hx
   rcases hx with rfl | hx | hx
   · split at h1
     · rename_i f hf
       simp only [eW, cF] at h1
       obtain ⟨⟨⟨⟨⟨⟨g1, g2⟩, g3⟩, g4⟩, g5⟩, g6⟩, g7⟩ := h1
       cases hft : f.text with
       | true =>
         rw [hft] at g2
         exact Ks (by simpa using g2)
       | false =>
         rw [hft] at g1
         have : tx = [] := by simpa using g1
         simp [this]
     · cases h1
   · exact e1 x hx
   · exact e2 x hx
theorem Mm {c : Int -> Bool} {m : Nat} {l : List Nd} (h : oy c m l) : ∀ x ∈ node 1 [] 0 0 0 l, x.text.length <= 100000 := by
 obtain ⟨ts, e1, o1, _, _⟩ := h
 intro x hx
 simp only [node, fC] at hx
 rcases hx with rfl | hx
 · simp
 · rw [e1] at hx
   have := yh _ ts (cG _) o1 x hx
   omega
theorem BY {U : St} {b n : Nat} {l : List Nd} (hb : U.box b = some (bJ l)) (hn : l ≠ []) : resolve (n + 2) U (.ms b 0 l.length 6 43) = dy l := by
 show (match U.box b with | some c => AV.vec l.length .gC ((c.map (resolve (n + 1) U)).drop 0) | none => .any) = _
 rw [hb]
 simp only [eR, zR]
 unfold dy
 rw [if_neg hn]
theorem D8 {U : St} {v9 : AV} {acc : List Nd} {m : Nat} {R : cS -> St -> Prop} (hk : gH U v9 acc) (hi : oy ke m acc) (hm : m <= 900) (hl : acc.length <= 40000)
 (A : AV -> AV -> St -> Prop) (hA : ∀ tB b af, U.live tB = none -> U.live b = none -> dr U af -> af.box tB = some [.ms b 0 (acc.length + 1) 6 43] -> af.box b = some (bJ (node 1 [] 0 0 0 acc)) -> A (.box tB 0) (.int .i64 (pU (node 1 [] 0 0 0 acc))) af) :
 (bE (some [(0, 1), (1, 1), (2, 1), (3, 1), (4, 1), (5, 1)]) (some [AV.int .u8 0, AV.str [], AV.int .i64 0, AV.int .i64 0, AV.int .i64 0, AV.int .i64 0]) none [(0, (AV.int .u8 1))]).wp K U (fun v46 U =>
   (aA (some (23, 1)) (some [AV.ak]) 1 false [(0, v9)]).wp K U (fun gp U =>
   ad K 60 [v46, gp] U (ai (fun v49 U =>
   (bE (some [(0, 1)]) (some [AV.ak]) none [(0, v49)]).wp K U (fun fx U =>
   (aw.cJ [AV.ak]).wp K U (fun v10 U =>
   (aD (some (true, 1)) v10 fx U).wp K U (fun _ U =>
   (av (some (true, 1)) v10 U).wp K U (fun v51 U =>
   ad K 31 [v51] U (ai (fun iD U => A v10 iD U) (aa R))) (aa R)) (aa R)) (aa R)) (aa R)) (aa R))) (aa R)) (aa R) := by
 refine gz [.int .u8 1, .str [], .int .i64 0, .int .i64 0, .int .i64 0, .int .i64 0] rfl ?_
 refine KU hk.cN.1 hk.cN.2 ?_
 refine Gi (vs := [v9]) (nss := [acc]) (.inr ⟨.full, rfl⟩) ⟨rfl, fun i v l h1 h2 => ?_⟩ (by simp; omega) (by simp) fun b bP fb hb e1 => ?_
 · match i, h1, h2 with
   | 0, h1, h2 => cases h1; cases h2; exact hk
   | i + 1, h1, h2 => simp at h1
 have pX : [acc].flatten = acc := by simp
 rw [pX] at hb ⊢
 have hlen : (node 1 [] 0 0 0 acc).length = acc.length + 1 := rfl
 simp only [bg, hlen]
 refine gz [.ms b 0 (acc.length + 1) 6 43] rfl ?_
 rw [du]
 intro tB JN
 have m10 : (bP.new tB (.box [.ak])).box tB = some [.ak] := aW
 have e2 := e1.new JN (x := .box [.ak])
 have gA := (cE JN (x := .box [.ak])).bU hb
 have n10 := JN.da hb
 have f10 := e1.fresh JN.1
 generalize bP.new tB (.box [.ak]) = bI at *
 rw [cT m10]
 refine ⟨⟨rfl, rfl, by simp⟩, ?_⟩
 have g10 : (bI.set tB (.box (az [.ak] 0 (aC (.agg [.ms b 0 (acc.length + 1) 6 43]))))).box tB = some [.ms b 0 (acc.length + 1) 6 43] := by rw [bf]; rfl
 have lB : (bI.set tB (.box (az [.ak] 0 (aC (.agg [.ms b 0 (acc.length + 1) 6 43]))))).box b = some (bJ (node 1 [] 0 0 0 acc)) := by rw [bK n10]; exact gA
 have e3 := e2.set f10 (x := .box (az [.ak] 0 (aC (.agg [.ms b 0 (acc.length + 1) 6 43]))))
 generalize bI.set tB (.box (az [.ak] 0 (aC (.agg [.ms b 0 (acc.length + 1) 6 43])))) = bQ at *
 rw [ow g10]
 refine ⟨by simp, ?_⟩
 have nK : List.take 1 (List.drop 0 [AV.ms b 0 (acc.length + 1) 6 43]) = [.ms b 0 (acc.length + 1) 6 43] := rfl
 rw [nK]
 refine UF (l := node 1 [] 0 0 0 acc) (.inr ⟨b, rfl, lB⟩) (by rw [hlen]; omega) (Mm hi) fun cz e4 => ?_
 exact hA tB b cz f10 fb (e3.trans e4) (e4.bU g10) (e4.bU lB)
theorem Cj {l : List Nd} {m : Nat} (h : oy ke m l) (hm : m <= 900) : (dA l).2 = pU (node 1 [] 0 0 0 l) /\ (dA l).1 = if pU (node 1 [] 0 0 0 l) = 0 then node 1 [] 0 0 0 l else [] := by
 have := Qg h hm
 unfold dA
 rw [this]
 split
 · exact ⟨rfl, by simp⟩
 · exact ⟨rfl, by simp⟩
end Go.Rip
namespace Go.Rip
open Go.Proofs Go.RowKit
theorem Rs {U : St} {b : Nat} {l : List Nd} (hb : U.box b = some (bJ l)) (hn : l ≠ []) (p e : AV) (hp : ∀ n, resolve (n + 1) U p = p) (he : ∀ n, resolve (n + 1) U e = e) : resolve 5 U (.aU [.agg [.ms b 0 l.length 6 43], p, e]) = .aU [.agg [dy l], p, e] := by
 show AV.aU [.agg [resolve 3 U (.ms b 0 l.length 6 43)], resolve 4 U p, resolve 4 U e] = _
 rw [BY (n := 1) hb hn, hp, he]
theorem HJ (s : aZ) (hs : s.length <= 3000) : Pure K 19 [.str s] (rG (fp s)) := by
 refine Pure.IQ rfl (by simp [rG, closed, cL, oN]) fun R hR => ?_
 refine RT ?_
 unfold TP
 rw [du]
 intro b2 gA
 have m2 : ((bX ⟨.e, 0⟩).new b2 (.box [.ak])).box b2 = some [.ak] := aW
 generalize (bX _).new b2 _ = ay at *
 clear gA
 have Fk : ∀ (af : St) (p e : AV), (∃ x, af.box b2 = some [x]) -> (∀ gY, resolve 5 gY (.aU [.agg [.ak], p, e]) = rG (fp s)) ->
  (bE (some [(0, 1)]) (some [AV.ak]) none []).wp K af (fun v20 U => (aD (some (true, 1)) (.box b2 0) v20 U).wp K U (fun _ U =>
  bL (some (true, 1)) (.box b2 0) U fun r0 => al R (AV.aU [r0, p, e]) U) (aa R)) (aa R) := by
  intro af p e ⟨x, hx⟩ hp
  refine gz [.ak] rfl ?_
  rw [cT hx]
  refine ⟨⟨rfl, rfl, by simp⟩, ?_⟩
  rw [ny bf]
  exact ⟨by simp [az], al.mk (hR _ _ (hp _))⟩
 refine (yD s hs).go ?_
 cases hl : jf s with
 | bad p e =>
   have he := s8 hl
   simp only [nY, bC, List.drop, bq, cg, aj, he, cM, dk]
   refine fU (Fk ay _ _ ⟨_, m2⟩ fun gY => ?_)
   unfold fp; rw [hl]; rfl
 | ok L =>
   simp only [nY, bC, List.drop, bq, cg, aj, cj, cC]
   refine fK ?_
   have pZ := (zl L).cN
   refine gz [pr L, .int .i64 0, .bool false] (by simp [pT, pZ, az]) ?_
   rw [jR rfl]
   intro r hr
   have mL : fp s = match nM (jl s L hl).L (jl s L hl).E ((jl s L hl).L.length + 1) [] 0 with
    | .ok l _ => ((dA l).1, 0, (dA l).2)
    | .bad j => ([], bM (jl s L hl).L s.length j, 4)
    | .out => ([], 0, 0) := by unfold fp; rw [hl]; rfl
   have LV : (ay.new r (.box (aC (.agg [pr L, .int .i64 0, .bool false])))).box r = some (rr (jl s L hl) 0 false) := aW
   have fL : b2 ≠ r := hr.da m2
   have TB := (cE hr (x := .box (aC (.agg [pr L, .int .i64 0, .bool false])))).bU m2
   generalize ay.new r (.box (aC (.agg [pr L, .int .i64 0, .bool false]))) = bP at *
   have FP : pr L = (jl s L hl).tv := rfl
   rw [FP]
   clear FP
   generalize jl s L hl = X at *
   clear hr m2 pZ
   have iN := X.small
   have cH : ∀ bI : St, (∃ x, bI.box b2 = some [x]) -> True := fun _ _ => trivial
   refine ⟨fun m v0 v2 v5 v8 v9 af => ∃ (i f : Nat) (acc : List Nd) (q : Nat) (mU : St), m = X.L.length - i /\ v0 = .str s /\ v2 = .box b2 0 /\ v5 = X.tv /\ v8 = .box r 0 /\ i <= X.L.length /\ X.L.length - i < f /\ nM X.L X.E f acc i = nM X.L X.E (X.L.length + 1) [] 0 /\ acc.length <= i /\ oy ke q acc /\ q <= i /\ eU mU af v9 43 6 acc.length (bJ acc) /\ mU.live r = none /\ mU.live b2 = none /\ af.box r = some (rr X i false) /\ (∃ x, af.box b2 = some [x]),
    ⟨_, 0, X.L.length + 1, [], 0, bX ⟨.e, 0⟩, rfl, rfl, rfl, rfl, rfl, by omega, by omega, rfl, by simp, .nil, by simp, .nil (fun b x hx => by cases hx), rfl, rfl, LV, _, TB⟩, ?_⟩
   clear LV TB
   rintro m v0 v2 v5 v8 v9 bI ⟨i, f, acc, q, mU, rfl, rfl, rfl, rfl, rfl, hi, hf, hit, Ak, xO, hqi, hg, Fw, tF, hr, gA⟩
   have pF : bD (some false) X.tv = .val (.int .i64 X.L.length) := X.tr.len
   simp only [bu, aj, aR, bW]
   refine qw hr rfl ?_
   rw [pF, aj]
   cases f with
   | zero => omega
   | succ f =>
   rw [nM] at hit
   refine vF (fun aL => ?_) fun gk => ?_
   · have aL : i < X.L.length := by omega
     rw [if_pos aL] at hit
     have hE : gB X.L X.E (fuel X.L) i = gB X.L 0 (fuel X.L) i := Iy _ _
     rw [hE] at hit
     have LF := IA (X := X) (f := fuel X.L) hi (by unfold fuel; omega) (by unfold fuel; omega)
     have qA : acc.length <= 900 := by omega
     refine LF.ct r bI _ false (gB X.L 0 (fuel X.L) i) hr (by simp [Sp]) ⟨fun ns j hp hj b bQ xK hb A => ?_, fun ns j hp dt hj zH b bQ xK hb A => ?_⟩
     · simp only [bg]
       have hlen := LF.len ns j hp
       have ac5 : b ≠ r := fun e => by rw [e] at xK; exact dJ hr xK
       have lC : eU mU bQ v9 43 6 acc.length (bJ acc) := by
        refine ⟨hg.g.fB hr A, hg.z, hg.t, fun c x hx => A.ex c x (fun e => ?_) (hg.ex c x hx)⟩
        rw [e, Fw] at hx; cases hx
       refine G5 (m := ns.length) (l2 := bJ ns) lC (gH.src (.inr ⟨b, rfl, hb⟩)) (by rw [fj]; omega) (by omega) fun cz v' g4 k4 => ?_
       obtain ⟨kb, _⟩ := kQ lC.g k4
       have sX := kb A.box
       refine qw sX rfl (fK ?_)
       have uq := Iz X.ok iN hp
       rw [hp] at hit
       obtain ⟨x, hx⟩ := gA
       refine ⟨X.L.length - j, by have := uq.2.1; omega, j, f, acc ++ ns, q + 1, mU, rfl, rfl, rfl, rfl, rfl, hj, by have := uq.2.1; omega, hit, by simp; omega, xO.snoc uq.1, by have := uq.2.1; omega, by simpa [oW] using g4, Fw, tF, sX, x, kb (A.ex.bU fL hx)⟩
     · simp only [bg]
       have lC : eU mU bQ v9 43 6 acc.length (bJ acc) := by
        refine ⟨hg.g.fB hr A, hg.z, hg.t, fun c x hx => A.ex c x (fun e => ?_) (hg.ex c x hx)⟩
        rw [e, Fw] at hx; cases hx
       refine G5 (m := ns.length) (l2 := bJ ns) lC (gH.src (.inr ⟨b, rfl, hb⟩)) (by rw [fj]; omega) (by omega) fun cz v' g4 k4 => ?_
       obtain ⟨kb, _⟩ := kQ lC.g k4
       have sX := kb A.box
       refine qw sX rfl (fU ?_)
       refine gz [.ak] rfl ?_
       refine I7 hj sX fun dm e5 => ?_
       simp only [bg, Bc, List.drop, bq]
       obtain ⟨x, hx⟩ := gA
       rw [cT (e5.bU (kb (A.ex.bU fL hx)))]
       refine ⟨⟨rfl, rfl, by simp⟩, ?_⟩
       rw [ny bf]
       refine ⟨by simp [az], al.mk (hR _ _ ?_)⟩
       rw [mL, <- hit, hp]; rfl
   · rw [if_neg (by omega)] at hit
     have iM : i = X.L.length := by omega
     subst iM
     obtain ⟨x, hx⟩ := gA
     refine D8 (m := q) hg.lW xO (by omega) (by omega) _ fun tB b bQ f10 fb e3 m10 mb => ?_
     obtain ⟨w2, w1⟩ := Cj xO (by omega)
     rw [<- hit] at mL
     simp only at mL
     have BD := e3.bU hx
     refine G6 ?_
     by_cases hc : pU (node 1 [] 0 0 0 acc) = 0
     · simp only [hc, cj, cC]
       refine fK ?_
       rw [ow m10]
       refine ⟨by simp, ?_⟩
       rw [cT BD]
       have nb : b2 ≠ b := fun e => by rw [<- e] at fb; exact dJ hx fb
       refine ⟨⟨rfl, rfl, by simp⟩, ?_⟩
       rw [ny bf]
       refine ⟨by simp [az], al.mk (hR _ _ ?_)⟩
       rw [if_pos hc] at w1
       rw [mL, w1, w2, hc]
       refine (Rs (l := node 1 [] 0 0 0 acc) (by rw [bK nb.symm]; exact mb) (by simp [node]) _ _ (fun _ => rfl) fun _ => rfl)
     · simp only [hc, cM, dk]
       refine fU (Fk bQ _ _ ⟨x, BD⟩ fun gY => ?_)
       rw [if_neg hc] at w1
       rw [mL, w1, w2]; rfl
end Go.Rip
namespace Go.Rip
open Go.Proofs Go.RowKit
theorem XB {U : St} {v : AV} {fl : List Int} {mU : St} (h : eU mU U v 78 2 fl.length (oz fl)) (n : Nat) (af : St) : resolve (n + 2) af v = sP fl := by
 refine zQ n h.g fun e => h.z (by rw [e]; rfl)
theorem eU.apart {mU U af : St} {v w : AV} {e sz n e2 Zv n2 : Nat} {l l2 : List AV} (h : eU mU U v e sz n l) (cH : e ≠ e2) (k : eU mU U w e2 Zv n2 l2) (hx : dr mU af) (e1 : ∀ b x, (∀ n l, w ≠ .vec n (.own b) l) -> U.live b = some x -> af.live b = some x) : eU mU af v e sz n l :=
 ⟨h.g.other cH k.g e1, h.z, h.t, hx⟩
theorem Rc {L : List Tk} {i : Nat} {t : Tk} (hL : ∀ t ∈ L, lM t) (ht : L[i]? = some t) : oF L i = (decide (t.k = 3) && (decide (t.s = fA) || decide (t.s = jS) || decide (t.s = ff))) := by
 have h1 : fA ∈ kr := by decide
 have h2 : jS ∈ kr := by decide
 have h3 : ff ∈ kr := by decide
 have key : ∀ w ∈ kr, bl L i w = (decide (t.k = 3) && decide (t.s = w)) := fun w hw => by
  rw [nq]
  constructor
  · intro h
    obtain ⟨t', xf, hk, hs⟩ := Iv hL hw h
    rw [ht] at xf; cases xf
    simp [hk, hs]
  · intro h
    simp only [cF, ej] at h
    exact CN ht (.inl h.1) h.2
 unfold oF
 rw [key _ h1, key _ h2, key _ h3]
 cases decide (t.k = 3) <;> simp
theorem Eo (s : aZ) (hs : s.length <= 3000) : Pure K 21 [.str s] (nU (dw s)) := by
 refine Pure.IQ rfl (by simp [nU, closed, cL, oN, A0]) fun R hR => ?_
 refine RV ?_
 unfold TR
 rw [du]
 intro b2 gA
 have m2 : ((bX ⟨.e, 0⟩).new b2 (.box [.ak])).box b2 = some [.ak] := aW
 generalize (bX _).new b2 _ = ay at *
 clear gA
 have Fk : ∀ (af : St) (p e : AV), (∃ x, af.box b2 = some [x]) -> (∀ gY, resolve 5 gY (.aU [.agg [.ak], p, e]) = nU (dw s)) ->
  (bE (some [(0, 1)]) (some [AV.ak]) none []).wp K af (fun v20 U => (aD (some (true, 1)) (.box b2 0) v20 U).wp K U (fun _ U =>
  bL (some (true, 1)) (.box b2 0) U fun r0 => al R (AV.aU [r0, p, e]) U) (aa R)) (aa R) := by
  intro af p e ⟨x, hx⟩ hp
  refine gz [.ak] rfl ?_
  rw [cT hx]
  refine ⟨⟨rfl, rfl, by simp⟩, ?_⟩
  rw [ny bf]
  exact ⟨by simp [az], al.mk (hR _ _ (hp _))⟩
 refine (yD s hs).go ?_
 cases hl : jf s with
 | bad p e =>
   have he := s8 hl
   simp only [nY, bC, List.drop, bq, cg, aj, he, cM, dk]
   refine fU (Fk ay _ _ ⟨_, m2⟩ fun gY => ?_)
   unfold dw; rw [hl]; rfl
 | ok L =>
   simp only [nY, bC, List.drop, bq, cg, aj, cj, cC]
   refine fK ?_
   have pZ := (zl L).cN
   have mL : dw s = match mC (jl s L hl).L (jl s L hl).E ((jl s L hl).L.length + 1) [] [] 0 with
    | (acc, fl) => if (dA acc).2 = 0 then ((dA acc).1, fl, 0) else ([], [], (dA acc).2) := by unfold dw; rw [hl]; rfl
   have hE : (jl s L hl).E = s.length := rfl
   have FP : pr L = (jl s L hl).tv := rfl
   rw [FP] at pZ ⊢
   clear FP
   generalize jl s L hl = X at *
   have iN := X.small
   refine ⟨fun m v0 v2 v5 v8 v9 v10 af => ∃ (i f : Nat) (acc : List Nd) (fl : List Int) (q : Nat) (mU : St), m = X.L.length - i /\ v0 = .str s /\ v2 = .box b2 0 /\ v5 = X.tv /\ v10 = .int .i64 (i : Nat) /\ i <= X.L.length /\ X.L.length - i < f /\ mC X.L X.E f acc fl i = mC X.L X.E (X.L.length + 1) [] [] 0 /\ acc.length <= i /\ fl.length <= i /\ oy ke q acc /\ q <= i /\ eU mU af v8 43 6 acc.length (bJ acc) /\ eU mU af v9 78 2 fl.length (oz fl) /\ mU.live b2 = none /\ (∃ x, af.box b2 = some [x]),
    ⟨_, 0, X.L.length + 1, [], [], 0, bX ⟨.e, 0⟩, rfl, rfl, rfl, rfl, rfl, by omega, by omega, rfl, by simp, by simp, .nil, by simp, .nil (fun b x hx => by cases hx), .nil (fun b x hx => by cases hx), rfl, _, m2⟩, ?_⟩
   clear m2
   rintro m v0 v2 v5 v8 v9 v10 bI ⟨i, f, acc, fl, q, mU, rfl, rfl, rfl, rfl, rfl, hi, hf, hit, Ak, pX, xO, hqi, hg, hh, tF, gA⟩
   have pF : bD (some false) X.tv = .val (.int .i64 X.L.length) := X.tr.len
   rw [pF, aj]
   cases f with
   | zero => omega
   | succ f =>
   rw [mC] at hit
   refine vF (fun aL => ?_) fun gk => ?_
   · have aL : i < X.L.length := by omega
     rw [if_pos aL, show gB X.L X.E (fuel X.L) i = gB X.L 0 (fuel X.L) i from Iy _ _] at hit
     refine gz [X.tv, .int .i64 (i : Nat), .bool false] (by simp [pT, pZ, az]) ?_
     rw [jR rfl]
     intro r hr
     have LV : (bI.new r (.box (aC (.agg [X.tv, .int .i64 (i : Nat), .bool false])))).box r = some (rr X i false) := aW
     obtain ⟨x, hx⟩ := gA
     have fL : b2 ≠ r := hr.da hx
     have e0 := cE hr (x := .box (aC (.agg [X.tv, .int .i64 (i : Nat), .bool false])))
     have Fw : mU.live r = none := hg.ex.fresh hr.1
     have qz := hg.mono e0
     have hh1 := hh.mono e0
     have hx1 := e0.bU hx
     generalize bI.new r (.box (aC (.agg [X.tv, .int .i64 (i : Nat), .bool false]))) = bP at *
     clear hr e0 hg hh hx
     have LF := IA (X := X) (f := fuel X.L) hi (by unfold fuel; omega) (by unfold fuel; omega)
     have JM : ∀ {bQ : St} {L' : List AV} {v : AV} {e sz n : Nat} {l : List AV}, eU mU bP v e sz n l -> eg r L' bP bQ -> eU mU bQ v e sz n l := fun hg A =>
      ⟨hg.g.fB LV A, hg.z, hg.t, fun c x hx => A.ex c x (fun e => by rw [e, Fw] at hx; cases hx) (hg.ex c x hx)⟩
     refine LF.ct r bP _ false (gB X.L 0 (fuel X.L) i) LV (by simp [Sp]) ⟨fun ns j hp hj b bQ xK hb A => ?_, fun ns j hp dt hj zH b bQ xK hb A => ?_⟩
     · simp only [bg, bu, aj, aR, bW]
       have hlen := LF.len ns j hp
       refine qw A.box rfl ?_
       simp only [cZ, aj, dk]
       refine fU ?_
       simp only [aJ]
       refine rp A.box rfl ?_
       have lC := JM qz A
       have Bp := JM hh1 A
       refine G5 (m := ns.length) (l2 := bJ ns) lC (gH.src (.inr ⟨b, rfl, hb⟩)) (by rw [fj]; omega) (by omega) fun cz v' g4 k4 => ?_
       obtain ⟨kb, _⟩ := kQ lC.g k4
       have uq := Iz X.ok iN hp
       rw [hp] at hit
       refine ⟨?_, X.L.length - j, by have := uq.2.1; omega, j, f, acc ++ ns, fl, q + 1, mU, rfl, rfl, rfl, rfl, rfl, hj, by have := uq.2.1; omega, hit, by simp; omega, by have := uq.2.1; omega, xO.snoc uq.1, by have := uq.2.1; omega, by simpa [oW] using g4, Bp.apart (by omega) lC g4.ex k4, tF, x, kb (A.ex.bU fL hx1)⟩
       intro c hc
       have hc : c = r := by simpa [cr] using hc
       subst hc
       cases hcl : bQ.live c with
       | none => exact absurd hcl (dJ A.box)
       | some y => exact k4 c y (fun n' l' hv => by
          rcases lC.g with ⟨_, _, h3⟩ | ⟨τ, r1, r2, _⟩
          · rw [h3] at hv; cases hv
          · rw [r1] at hv; cases hv; exact iu A.box r2 rfl) hcl
     · simp only [bg, bu, aj, aR, bW]
       refine qw A.box rfl ?_
       simp only [cZ, aj, cC]
       refine fK ?_
       have lC := JM qz A
       have Bp := JM hh1 A
       rw [hp] at hit
       simp only at hit
       refine I7 hj A.box fun cz e4 => ?_
       simp only [bg]
       rw [dE]
       refine ⟨by omega, ?_⟩
       rw [c6 (o := 0) (s := 2) rfl]
       refine ⟨⟨rfl, rfl, by simp [bB]⟩, ?_⟩
       rw [er]
       refine ⟨rfl, ?_⟩
       have Ij := lC.mono e4
       have Ya := Bp.mono e4
       have sX := e4.bU A.box
       have hx4 := e4.bU (A.ex.bU fL hx1)
       refine Cc Ya (m := 1) (l2 := [.int .i64 (bM X.L s.length j), .int .i64 4]) rfl rfl (by omega) (by omega) fun dm v' g5 k5 => ?_
       obtain ⟨kb, _⟩ := kQ Ya.g k5
       have Ip := kb sX
       refine qw Ip rfl ?_
       rw [cI]
       refine ⟨bp (by omega) (by omega), ?_⟩
       simp only [IG, aj]
       have Ao : (if (i : Int) + 1 > (j : Nat) then (i : Int) + 1 else (j : Nat)) = ((max j (i + 1) : Nat) : Int) := by
        split <;> omega
       rw [Ao]
       have wX := Ij.apart (by omega) Ya g5.ex k5
       have hx5 := kb hx4
       have S7 : eU mU dm v' 78 2 (fl ++ [bM X.L X.E j]).length (oz (fl ++ [bM X.L X.E j])) := by
        rw [hE]; simpa [oz] using g5
       have Bx : i + 1 <= max j (i + 1) := by omega
       have Yi : max j (i + 1) <= X.L.length := by omega
       generalize max j (i + 1) = q0 at *
       clear Ao g5 k5 kb Ip
       refine ⟨fun m' w0 w2 w5 w8 w9 w10 af => ∃ p fq, m' = X.L.length - p /\ w0 = .str s /\ w2 = .box b2 0 /\ w5 = X.tv /\ w8 = v8 /\ w9 = v' /\ w10 = .int .i64 (p : Nat) /\ af = dm /\ i < p /\ p <= X.L.length /\ X.L.length - p <= fq /\ iH X.L fq p = iH X.L X.L.length q0,
        ⟨_, q0, X.L.length, rfl, rfl, rfl, rfl, rfl, rfl, rfl, rfl, by omega, Yi, by omega, rfl⟩, ?_⟩
       rintro m' w0 w2 w5 w8 w9 w10 gM ⟨p, fq, rfl, rfl, rfl, rfl, rfl, rfl, rfl, rfl, hip, xT, X7, FO⟩
       rw [pF, aj, bh, aj]
       have stop : iH X.L fq p = p -> ∃ m', m' < X.L.length - i /\ ∃ (i' f' : Nat) (EP : List Nd) (SQ : List Int) (q' : Nat) (SL : St), m' = X.L.length - i' /\ AV.str s = .str s /\ AV.box b2 0 = .box b2 0 /\ X.tv = X.tv /\ AV.int .i64 (p : Nat) = .int .i64 (i' : Nat) /\ i' <= X.L.length /\ X.L.length - i' < f' /\ mC X.L X.E f' EP SQ i' = mC X.L X.E (X.L.length + 1) [] [] 0 /\ EP.length <= i' /\ SQ.length <= i' /\ oy ke q' EP /\ q' <= i' /\ eU SL gM w8 43 6 EP.length (bJ EP) /\ eU SL gM w9 78 2 SQ.length (oz SQ) /\ SL.live b2 = none /\ (∃ x, gM.box b2 = some [x]) := fun fN =>
        ⟨X.L.length - p, by omega, p, f, acc, fl ++ [bM X.L X.E j], q, mU, rfl, rfl, rfl, rfl, rfl, xT, by omega, by rw [<- hit, <- FO, fN], by omega, by simp; omega, xO, by omega, wX, S7, tF, x, hx5⟩
       by_cases oR : p < X.L.length
       · have Q6 : (p : Int) < X.L.length := by omega
         obtain ⟨t, ht⟩ : ∃ t, X.L[p]? = some t := ⟨X.L[p], by simp [oR]⟩
         have hiw := Rc X.ok ht
         have e3 : ((t.k : Int) = 3) = (t.k = 3) := by simp; omega
         have tok : ∀ (o : Nat) (c : AV) (kq : AV -> Prop), (jo t)[o]? = some c -> kq c -> ae K (.bool true) (aH (some (51, 3)) none X.tv (.int .i64 (p : Nat))) fun a => ae K (.bool true) (ag (some o) a) fun b => ae K (.bool true) (av (some (false, 1)) b gM) kq := fun o c kq hc hk => by
          refine Gw rfl ht fun rest => ?_
          obtain ⟨r', u5⟩ := Ag hc rest
          refine lj ?_
          simp only [eH, aJ]
          refine lj ?_
          rw [tj, u5, fw]; exact hk
         cases fq with
         | zero => omega
         | succ fq =>
         have XF : oF X.L p = false -> (aq .add (BT.mk false false false none) true (AV.int .i64 (p : Nat)) (AV.int .i64 1)).wp K gM (fun Eg U =>
          (∃ m', m' < X.L.length - p /\ ∃ p' fq', m' = X.L.length - p' /\ AV.str s = .str s /\ AV.box b2 0 = .box b2 0 /\ X.tv = X.tv /\ w8 = w8 /\ w9 = w9 /\ Eg = .int .i64 (p' : Nat) /\ U = gM /\ i < p' /\ p' <= X.L.length /\ X.L.length - p' <= fq' /\ iH X.L fq' p' = iH X.L X.L.length q0)) (aa R) := fun fM => by
          rw [cI]
          refine ⟨bp (by omega) (by omega), X.L.length - (p + 1), by omega, p + 1, fq, rfl, rfl, rfl, rfl, rfl, rfl, by simp, rfl, by omega, oR, by omega, ?_⟩
          rw [<- FO, iH, if_pos ⟨oR, fM⟩]
         have halt : oF X.L p = true -> iH X.L (fq + 1) p = p := fun ab8 => by rw [iH, if_neg (by rw [ab8]; simp)]
         simp only [Q6, cj, aS, dN]
         refine c8 (c8 (tok 0 (.int .u8 t.k) _ rfl ?_))
         rw [cg]
         refine c8 (c8 ?_)
         by_cases hk3 : t.k = 3
         · have Q2 : (t.k : Int) = 3 := by omega
           simp only [Q2, cj, cC, aS, dN]
           refine c8 (c8 (tok 1 (.str t.s) _ rfl ?_))
           rw [iX]
           refine c8 (c8 ?_)
           have JS : oF X.L p = (decide (t.s = fA) || decide (t.s = jS) || decide (t.s = ff)) := by rw [hiw]; simp [hk3]
           by_cases h1 : t.s = fA
           · simp only [h1, cj, cC, aS, show (false == true) = false from rfl, aM, bz, hX, bG, aJ, aF, bH, if_false, if_true, dN, aj]
             exact fK (stop (halt (by rw [JS]; simp [h1])))
           · simp only [h1, cM, dk, aS, dN]
             refine c8 (c8 (tok 1 (.str t.s) _ rfl ?_))
             rw [iX]
             refine c8 ?_
             by_cases h2 : t.s = jS
             · simp only [h2, cj, cC, aS, show (false == true) = false from rfl, aM, bz, hX, bG, aJ, aF, bH, if_false, if_true, dN, aj]
               exact fK (stop (halt (by rw [JS]; simp [h2])))
             · simp only [h2, cM, dk, aF, if_true, aS, dN]
               refine c8 (c8 (c8 (c8 (tok 1 (.str t.s) _ rfl ?_))))
               rw [iX]
               refine c8 ?_
               by_cases h3 : t.s = ff
               · simp only [h3, cj, cC, aS, show (false == true) = false from rfl, aM, bz, hX, bG, aJ, aF, bH, if_false, if_true, dN, aj]
                 exact fK (stop (halt (by rw [JS]; simp [h3])))
               · simp only [h3, cM, dk, aS, aM, bG, aJ, aF, bH, if_false, if_true, dN, aj]
                 exact fU (XF (by rw [JS]; simp [h1, h2, h3]))
         · have Q2 : ¬ (t.k : Int) = 3 := by omega
           simp only [Q2, cM, dk, aS, show (true == false) = false from rfl, show (false == true) = false from rfl, aM, bz, hX, bG, aJ, aF, bH, if_false, if_true, dN, aj]
           exact fU (XF (by rw [hiw]; simp [hk3]))
       · have Q6 : ¬ (p : Int) < X.L.length := by omega
         have fN : iH X.L fq p = p := by
          cases fq with
          | zero => rfl
          | succ fq => rw [iH, if_neg (fun h => oR h.1)]
         simp only [Q6, cM, aS, show (true == false) = false from rfl, show (false == true) = false from rfl, aM, bz, hX, bG, aJ, aF, bH, if_false, if_true, dN, aj]
         exact fK (stop fN)
   · rw [if_neg (by omega)] at hit
     have iM : i = X.L.length := by omega
     subst iM
     obtain ⟨x, hx⟩ := gA
     refine D8 (m := q) hg.lW xO (by omega) (by omega) _ fun tB b bQ f10 fb e3 m10 mb => ?_
     obtain ⟨w2, w1⟩ := Cj xO (by omega)
     rw [<- hit] at mL
     simp only at mL
     have BD := e3.bU hx
     refine G6 ?_
     by_cases hc : pU (node 1 [] 0 0 0 acc) = 0
     · simp only [hc, cj, cC]
       refine fK ?_
       rw [ow m10]
       refine ⟨by simp, ?_⟩
       rw [cT BD]
       have nb : b2 ≠ b := fun e => by rw [<- e] at fb; exact dJ hx fb
       refine ⟨⟨rfl, rfl, by simp⟩, ?_⟩
       rw [ny bf]
       refine ⟨by simp [az], al.mk (hR _ _ ?_)⟩
       rw [if_pos hc] at w1
       rw [mL, w1, w2, hc]
       show AV.aU [.agg [resolve 3 _ (.ms b 0 (node 1 [] 0 0 0 acc).length 6 43)], resolve 4 _ v9, .int .i64 0] = _
       rw [BY (n := 1) (l := node 1 [] 0 0 0 acc) (by rw [bK nb.symm]; exact mb) (by simp [node]), XB hh 2]
       rfl
     · simp only [hc, cM, dk]
       refine fU (Fk bQ _ _ ⟨x, BD⟩ fun gY => ?_)
       rw [if_neg hc] at w1
       rw [mL, w2, if_neg hc]; rfl
end Go.Rip
