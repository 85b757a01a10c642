/- Lemmas for the proof: no conditions. -/
import Derived.Test.YtnfpmiiopiinbaaGreatDoorRipZz
import Derived.Test.YtnfpmiiopiinbaaGreatDoorRipQ
import Derived.Test.YtnfpmiiopiinbaaGreatDoorRipF
set_option linter.unusedVariables false
set_option linter.unusedSimpArgs false
set_option linter.loopingSimpArgs false
namespace Go.Rip
open Go.Proofs Go.RowKit
theorem we : ∀ (f : Nat) (s : aZ) (p : Nat) (l : List Tk) {q : Nat} {e : Int}, je f s p l = .bad q e -> e ≠ 0
 | 0, s, p, l, q, e, h => by simp [je] at h
 | f + 1, s, p, l, q, e, h => by
   simp only [je] at h
   split at h
   · cases h
   · split at h
     · exact we f s _ l h
     · split at h
       · exact we f s _ l h
       · split at h
         · rename_i he; cases h; exact he
         · split at h
           · cases h; omega
           · exact we f s _ _ h
theorem s8 {s : aZ} {p : Nat} {e : Int} (h : jf s = .bad p e) : e ≠ 0 := by
 unfold jf at h
 split at h
 split at h
 · rename_i he; cases h; exact he
 · exact we _ _ _ _ h
theorem zl (l : List Tk) : iJ (pr l) l.length (ib l) := by
 unfold pr
 split
 · rename_i h; subst h; exact .inl ⟨rfl, rfl, rfl⟩
 · exact .inr ⟨_, rfl⟩
def jl (s : aZ) (l : List Tk) (h : jf s = .ok l) : Rx := ⟨l, s.length, pr l, zl l, (CO h).1, (CO h).2⟩
theorem GN {U : St} {R : cS -> St -> Prop} {s : aZ} (hs : s.length <= 3000) (h1 : ∀ p e, jf s = .bad p e -> R (.ret (.aU [.bj, .int .i64 p, .int .i64 e])) U)
 (h2 : ∀ l (h : jf s = .ok l) r af, dr U af -> U.live r = none -> af.box r = some (rd (jl s l h) 0) -> R (.ret (.aU [.box r 0, .int .i64 0, .int .i64 0])) af) : ad K 53 [.str s] U R := by
 refine R1 ?_
 unfold TX
 refine (HN s hs).go ?_
 cases hl : jf s with
 | bad p e =>
   have he := s8 hl
   simp only [nY, bC, List.drop, bq, cg, aj, he, cM, dk, aK]
   exact al.mk (h1 p e hl)
 | ok l =>
   simp only [nY, bC, List.drop, bq, cg, aj, cj, cC, aE, eM]
   refine Gr.go ?_
   refine zy.go ?_
   have pZ := (zl l).cN
   refine gz [pr l, .int .i64 0, .int .i64 s.length, Aw, qG] (by simp [pT, pZ, az, Aw, qG]) ?_
   rw [jR rfl]
   intro r hr
   exact al.mk (h2 l hl r _ ((dr.refl U).new hr) hr.1 aW)
def fp (s : aZ) : List Nd × Int × Int := match jf s with
 | .bad p e => ([], p, e)
 | .ok L => match nM L s.length (L.length + 1) [] 0 with
   | .ok l _ => ((dA l).1, 0, (dA l).2)
   | .bad j => ([], bM L s.length j, 4)
   | .out => ([], 0, 0)
def rG (p : List Nd × Int × Int) : AV := .aU [.agg [dy p.1], .int .i64 p.2.1, .int .i64 p.2.2]
theorem Jx : ∀ l : List Nd, cL (bJ l) = true := fun l => by
 induction l with
 | nil => rfl
 | cons x l ih => show cL (fO x ++ bJ l) = true; simp [fO, cL, closed, ih]
theorem oN (l : List Nd) : closed (dy l) = true := by
 unfold dy; split
 · rfl
 · exact Jx l
theorem zR (n : Nat) (U : St) (l : List Nd) : (bJ l).map (resolve (n + 1) U) = bJ l := by
 induction l with
 | nil => rfl
 | cons x l ih =>
   show ((fO x ++ bJ l).map (resolve (n + 1) U)) = fO x ++ bJ l
   rw [List.map_append, ih]; rfl
theorem yA (n : Nat) (U : St) (l : List Nd) : resolve (n + 2) U (dy l) = dy l := by
 unfold dy; split
 · rfl
 · show AV.vec l.length .gC ((bJ l).map (resolve (n + 1) U)) = _
   rw [zR]
theorem Kt (s : aZ) (hs : s.length <= 3000) : Pure K 18 [.str s] (rG (fp s)) := by
 refine Pure.IQ rfl (by simp [rG, closed, cL, oN]) fun R hR => ?_
 refine RS ?_
 unfold TO
 rw [du]
 intro b2 gA
 have m2 : ((bX ⟨.e, 0⟩).new b2 (.box [.ak])).box b2 = some [.ak] := aW
 generalize (bX _).new b2 _ = ay at *
 clear gA
 have fin : ∀ (af : St) (t : List Nd) (p e : Int), (∃ x, af.box b2 = some [x]) -> fp s = (t, p, e) ->
  (aD (some (true, 1)) (.box b2 0) (.agg [dy t]) af).wp K af (fun _ U => bL (some (true, 1)) (.box b2 0) U fun r0 => al R (AV.aU [r0, .int .i64 p, .int .i64 e]) U) (aa R) := by
  intro af t p e ⟨x, hx⟩ hp
  rw [cT hx]
  refine ⟨⟨rfl, rfl, by simp⟩, ?_⟩
  rw [ny bf]
  refine ⟨by simp [az], al.mk (hR _ _ ?_)⟩
  rw [hp]
  simp only [az, xA, List.take, List.drop, oJ, mB, lk, qm, rG]
  show AV.aU [.agg [resolve 3 _ (dy t)], .int .i64 p, .int .i64 e] = _
  rw [yA 1]
 refine GN hs (fun p e hl => ?_) (fun L hL r bP e1 FM hr => ?_)
 · have he := s8 hl
   simp only [bg, bC, List.drop, bq, cg, aj, he, cM, dk, aK]
   refine gz [.ak] rfl ?_
   exact fin ay [] _ _ ⟨_, m2⟩ (by unfold fp; rw [hl])
 · simp only [bg, bC, List.drop, bq, cg, aj, cj, cC, aE]
   have hXL : (jl s L hL).L = L := rfl
   have hXE : (jl s L hL).E = s.length := rfl
   have mL : fp s = match nM (jl s L hL).L (jl s L hL).E ((jl s L hL).L.length + 1) [] 0 with
    | .ok l _ => ((dA l).1, 0, (dA l).2)
    | .bad j => ([], bM (jl s L hL).L (jl s L hL).E j, 4)
    | .out => ([], 0, 0) := by unfold fp; rw [hL]; rfl
   generalize jl s L hL = X at *
   have fL : b2 ≠ r := fun e => by rw [<- e] at FM; exact dJ m2 FM
   refine ⟨fun m v2 v5 v8 af => ∃ (i f : Nat) (acc : List Nd) (ks : List AV), m = X.L.length - i /\ v2 = .box b2 0 /\ v5 = .box r 0 /\ i <= X.L.length /\ X.L.length - i < f /\ nM X.L X.E f acc i = nM X.L X.E (X.L.length + 1) [] 0 /\ acc.length <= i /\ dI true ks acc /\ Grow af v8 87 1 ks.length ks /\ (ks = [] -> v8 = .ak) /\ af.box r = some (rd X i) /\ (∃ x, af.box b2 = some [x]),
    ⟨_, 0, X.L.length + 1, [], [], rfl, rfl, rfl, by omega, by omega, rfl, by simp, .nil, .inl ⟨rfl, rfl, rfl⟩, fun _ => rfl, hr, _, e1.bU m2⟩, ?_⟩
   clear hr e1 m2 FM
   rintro m v2 v5 v8 bI ⟨i, f, acc, ks, rfl, rfl, rfl, hi, hf, hit, Ak, hk, hg, Bm, hr, gA⟩
   have iN := X.small
   simp only [bu, aJ, aR, bW, jC hr, rd, List.drop, fw, X.tr.len, bh, aT]
   cases f with
   | zero => omega
   | succ f =>
   rw [nM] at hit
   refine ⟨fun aL => ?_, fun gk => ?_⟩
   · have aL : i < X.L.length := by omega
     rw [if_pos aL] at hit
     refine B4 hr hi (fun ns j a bQ hp hj dt Bs A => ?_) (fun j bQ hp dt hj A => ?_)
     · simp only [bg, bC, List.drop, bq, cZ, aj, cC, aE]
       rw [hp] at hit
       have hlen := xZ hp
       rw [dE]
       refine ⟨by omega, ?_⟩
       rw [c6 (o := 0) (s := 1) rfl]
       refine ⟨⟨Bs.cN.1, by rw [Bs.cN.2]; rfl, by simp [bB]⟩, ?_⟩
       rw [er, Bs.cN.2]
       refine ⟨rfl, ?_⟩
       have lC : Grow bQ v8 87 1 ks.length ks := by
        rcases hg with h | ⟨τ, r1, r2, r3⟩
        · exact .inl h
        · exact .inr ⟨τ, r1, A.ex.tok (iu hr r2).symm r2, r3⟩
       have qA := hk.le
       refine uc (m := 1) (l2 := [a]) lC rfl rfl (by omega) (by omega) (fun h => Bm (tk.1 h)) fun cz v' g1 g2 g3 => ?_
       obtain ⟨kb, _⟩ := kQ lC g2
       refine ⟨X.L.length - j, by omega, j, f, acc ++ ns, ks ++ [a], rfl, rfl, rfl, hj, by omega, hit, by simp; omega, hk.snoc Bs, by simpa using g1, fun h => by simp at h, kb A.box, ?_⟩
       obtain ⟨x, hx⟩ := gA
       exact ⟨x, kb (A.ex.bU fL hx)⟩
     · simp only [bg, bC, List.drop, bq, cZ, aj, dk, aK]
       rw [hp] at hit
       refine gz [.ak] rfl ?_
       obtain ⟨x, hx⟩ := gA
       refine fin bQ [] _ _ ⟨x, A.ex.bU fL hx⟩ ?_
       rw [mL, <- hit]; rfl
   · rw [if_neg (by omega)] at hit
     have hv : ks = [] /\ v8 = .ak \/ ∃ c, v8 = .vec ks.length c ks := by
      rcases hg with ⟨_, h1, h2⟩ | ⟨τ, r1, _, _⟩
      · exact .inl ⟨h1, h2⟩
      · exact .inr ⟨_, r1⟩
     refine G7 hv hk (by omega) fun bQ e3 => ?_
     simp only [bg, bC, List.drop, bq]
     rw [du]
     intro uQ vQ
     obtain ⟨x, hx⟩ := gA
     have m2 := ((e3.new vQ (x := .box [.ak])).bU hx)
     have n2 := vQ.da (e3.bU hx)
     have m12 : (bQ.new uQ (.box [.ak])).box uQ = some [.ak] := aW
     generalize bQ.new uQ (.box [.ak]) = cz at *
     rw [cT m12]
     refine ⟨⟨rfl, rfl, by simp⟩, ?_⟩
     rw [ow bf]
     refine ⟨by simp [az], ?_⟩
     have : (List.take 1 (List.drop 0 (az [AV.ak] 0 (aC (.agg [dy (dA acc).1]))))) = [dy (dA acc).1] := by simp [az]
     rw [this]
     refine fin _ (dA acc).1 0 (dA acc).2 ⟨x, by rw [bK n2]; exact m2⟩ ?_
     rw [mL, <- hit]
end Go.Rip
namespace Go.Rip
open Go.Proofs Go.RowKit
def iH (L : List Tk) : Nat -> Nat -> Nat
 | 0, p => p
 | f + 1, p => if p < L.length /\ oF L p = false then iH L f (p + 1) else p
def mC (L : List Tk) (E : Nat) : Nat -> List Nd -> List Int -> Nat -> List Nd × List Int
 | 0, acc, fl, _ => (acc, fl)
 | f + 1, acc, fl, i => if i < L.length then match gB L E (fuel L) i with
    | .ok a j => mC L E f (acc ++ a) fl j
    | .bad j => mC L E f acc (fl ++ [bM L E j]) (iH L L.length (max j (i + 1)))
    | .out => (acc, fl)
   else (acc, fl)
def dw (s : aZ) : List Nd × List Int × Int := match jf s with
 | .bad _ e => ([], [], e)
 | .ok L => match mC L s.length (L.length + 1) [] [] 0 with
   | (acc, fl) => if (dA acc).2 = 0 then ((dA acc).1, fl, 0) else ([], [], (dA acc).2)
def oz (l : List Int) : List AV := l.flatMap fun a => [.int .i64 a, .int .i64 4]
def sP (l : List Int) : AV := if l = [] then .ak else .vec l.length .gC (oz l)
def nU (p : List Nd × List Int × Int) : AV := .aU [.agg [dy p.1], sP p.2.1, .int .i64 p.2.2]
theorem Jw (l : List Int) : cL (oz l) = true := by
 induction l with
 | nil => rfl
 | cons x l ih => show cL ([.int .i64 x, .int .i64 4] ++ oz l) = true; simp [cL, closed, ih]
theorem HH (n : Nat) (af : St) (l : List Int) : (oz l).map (resolve (n + 1) af) = oz l := by
 induction l with
 | nil => rfl
 | cons x l ih =>
   show ((([AV.int .i64 x, AV.int .i64 4] : List AV) ++ oz l).map (resolve (n + 1) af)) = [AV.int .i64 x, AV.int .i64 4] ++ oz l
   rw [List.map_append, ih]; rfl
theorem A0 (l : List Int) : closed (sP l) = true := by
 unfold sP; split
 · rfl
 · exact Jw l
theorem zQ {U af : St} {v : AV} {l : List Int} (n : Nat) (h : Grow U v 78 2 l.length (oz l)) (h0 : l = [] -> v = .ak) : resolve (n + 2) af v = sP l := by
 unfold sP
 split
 · rename_i e; rw [h0 e]; rfl
 · rename_i e
   rcases h with ⟨h1, _, _⟩ | ⟨τ, rfl, _, _⟩
   · exact absurd (tk.1 h1) e
   · show AV.vec l.length .gC ((oz l).map (resolve (n + 1) af)) = _
     rw [HH]
theorem Grow.fB {r : Nat} {U af : St} {v : AV} {e sz n : Nat} {l L L' : List AV} (h : Grow U v e sz n l) (hr : U.box r = some L) (A : eg r L' U af) : Grow af v e sz n l := by
 rcases h with h | ⟨τ, r1, r2, r3⟩
 · exact .inl h
 · exact .inr ⟨τ, r1, A.ex.tok (iu hr r2).symm r2, r3⟩
theorem Grow.other {U af : St} {v w : AV} {e sz n e2 Zv n2 : Nat} {l l2 : List AV} (h : Grow U v e sz n l) (cH : e ≠ e2) (k : Grow U w e2 Zv n2 l2) (e1 : ∀ b x, (∀ n l, w ≠ .vec n (.own b) l) -> U.live b = some x -> af.live b = some x) : Grow af v e sz n l := by
 rcases h with h | ⟨τ, r1, r2, r3⟩
 · exact .inl h
 · refine .inr ⟨τ, r1, ?_, r3⟩
   cases el : U.live τ with
   | none => exact absurd el (yJ r2)
   | some x =>
     have := e1 τ x (fun n' l' hv => by
      rcases k with ⟨_, _, k⟩ | ⟨sb, k, k2, _⟩
      · rw [k] at hv; cases hv
      · rw [k] at hv; cases hv
        rw [r2] at k2; cases k2; exact cH rfl) el
     rw [rq (this.trans el.symm)]; exact r2
theorem Gz (s : aZ) (hs : s.length <= 3000) : Pure K 20 [.str s] (nU (dw s)) := by
 refine Pure.IQ rfl (by simp [nU, closed, cL, oN, A0]) fun R hR => ?_
 refine RU ?_
 unfold TQ
 rw [du]
 intro b2 gA
 have m2 : ((bX ⟨.e, 0⟩).new b2 (.box [.ak])).box b2 = some [.ak] := aW
 generalize (bX _).new b2 _ = ay at *
 clear gA
 have fin : ∀ (af : St) (t : List Nd) (fl : AV) (e : Int) (p : List Nd × List Int × Int), (∃ x, af.box b2 = some [x]) -> dw s = p -> p.1 = t -> p.2.2 = e -> (∀ gY, resolve 4 gY fl = sP p.2.1) ->
  (aD (some (true, 1)) (.box b2 0) (.agg [dy t]) af).wp K af (fun _ U => bL (some (true, 1)) (.box b2 0) U fun r0 => al R (AV.aU [r0, fl, .int .i64 e]) U) (aa R) := by
  intro af t fl e p ⟨x, hx⟩ hp h1 h2 h3
  subst h1 h2
  rw [cT hx]
  refine ⟨⟨rfl, rfl, by simp⟩, ?_⟩
  rw [ny bf]
  refine ⟨by simp [az], al.mk (hR _ _ ?_)⟩
  rw [hp]
  simp only [az, xA, List.take, List.drop, oJ, mB, lk, qm, nU]
  show AV.aU [.agg [resolve 3 _ (dy p.1)], resolve 4 _ fl, .int .i64 p.2.2] = _
  rw [yA 1, h3]
 refine GN hs (fun p e hl => ?_) (fun L hL r bP e1 FM hr => ?_)
 · have he := s8 hl
   simp only [bg, bC, List.drop, bq, cg, aj, he, cM, dk, aK]
   refine gz [.ak] rfl ?_
   exact fin ay [] _ _ ([], [], e) ⟨_, m2⟩ (by unfold dw; rw [hl]) rfl rfl (fun _ => rfl)
 · simp only [bg, bC, List.drop, bq, cg, aj, cj, cC, aE]
   have mL : dw s = match mC (jl s L hL).L (jl s L hL).E ((jl s L hL).L.length + 1) [] [] 0 with
    | (acc, fl) => if (dA acc).2 = 0 then ((dA acc).1, fl, 0) else ([], [], (dA acc).2) := by unfold dw; rw [hL]; rfl
   generalize jl s L hL = X at *
   have fL : b2 ≠ r := fun e => by rw [<- e] at FM; exact dJ m2 FM
   have iN := X.small
   refine ⟨fun m v2 v5 v8 v9 af => ∃ (i f : Nat) (acc : List Nd) (ks : List AV) (fl : List Int), m = X.L.length - i /\ v2 = .box b2 0 /\ v5 = .box r 0 /\ i <= X.L.length /\ X.L.length - i < f /\ mC X.L X.E f acc fl i = mC X.L X.E (X.L.length + 1) [] [] 0 /\ acc.length <= i /\ fl.length <= i /\ dI true ks acc /\ Grow af v8 87 1 ks.length ks /\ (ks = [] -> v8 = .ak) /\ Grow af v9 78 2 fl.length (oz fl) /\ (fl = [] -> v9 = .ak) /\ af.box r = some (rd X i) /\ (∃ x, af.box b2 = some [x]),
    ⟨_, 0, X.L.length + 1, [], [], [], rfl, rfl, rfl, by omega, by omega, rfl, by simp, by simp, .nil, .inl ⟨rfl, rfl, rfl⟩, fun _ => rfl, .inl ⟨rfl, rfl, rfl⟩, fun _ => rfl, hr, _, e1.bU m2⟩, ?_⟩
   clear hr e1 m2 FM
   rintro m v2 v5 v8 v9 bI ⟨i, f, acc, ks, fl, rfl, rfl, rfl, hi, hf, hit, Ak, ac6, hk, hg, Bm, hh, X9, hr, gA⟩
   simp only [bu, aJ, aR, bW, jC hr, rd, List.drop, fw, X.tr.len, bh, aT]
   cases f with
   | zero => omega
   | succ f =>
   rw [mC] at hit
   refine ⟨fun aL => ?_, fun gk => ?_⟩
   · have aL : i < X.L.length := by omega
     rw [if_pos aL] at hit
     simp only [bu, aj, aR, bW]
     rw [eG hr]
     simp only [rd, List.drop, bq]
     have qA := hk.le
     refine B4 hr hi (fun ns j a bQ hp hj dt Bs A => ?_) (fun j bQ hp dt hj A => ?_)
     · simp only [bg, bC, List.drop, bq, aK]
       rw [hp] at hit
       have hlen := xZ hp
       rw [dE]
       refine ⟨by omega, ?_⟩
       rw [c6 (o := 0) (s := 1) rfl]
       refine ⟨⟨Bs.cN.1, by rw [Bs.cN.2]; rfl, by simp [bB]⟩, ?_⟩
       rw [er, Bs.cN.2]
       refine ⟨rfl, ?_⟩
       have lC := hg.fB hr A
       have Bp := hh.fB hr A
       refine uc (m := 1) (l2 := [a]) lC rfl rfl (by omega) (by omega) (fun h => Bm (tk.1 h)) fun cz v' g1 g2 g3 => ?_
       obtain ⟨kb, _⟩ := kQ lC g2
       refine ⟨X.L.length - j, by omega, j, f, acc ++ ns, ks ++ [a], fl, rfl, rfl, rfl, hj, by omega, hit, by simp; omega, by omega, hk.snoc Bs, by simpa using g1, fun h => by simp at h, Bp.other (by omega) lC g2, X9, kb A.box, ?_⟩
       obtain ⟨x, hx⟩ := gA
       exact ⟨x, kb (A.ex.bU fL hx)⟩
     · simp only [bg, bC, List.drop, bq, aE]
       rw [hp] at hit
       simp only at hit
       refine gz [.int .i64 (bM X.L X.E j), .int .i64 4] rfl ?_
       rw [dE]
       refine ⟨by omega, ?_⟩
       rw [c6 (o := 0) (s := 2) rfl]
       refine ⟨⟨rfl, rfl, by simp [bB]⟩, ?_⟩
       rw [er]
       refine ⟨rfl, ?_⟩
       have lC := hg.fB hr A
       have Bp := hh.fB hr A
       refine uc (m := 1) (l2 := [.int .i64 (bM X.L X.E j), .int .i64 4]) Bp rfl rfl (by omega) (by omega) (fun h => X9 (tk.1 h)) fun cz v' g1 g2 g3 => ?_
       obtain ⟨kb, _⟩ := kQ Bp g2
       have sX := kb A.box
       have Ij := lC.other (by omega) Bp g2
       rw [eG sX]
       simp only [rd, List.drop, bq, cI]
       refine ⟨bp (by omega) (by omega), ?_⟩
       simp only [IG, aj]
       rw [cT sX]
       refine ⟨⟨rfl, rfl, by simp [rd]⟩, ?_⟩
       have Ao : (if (i : Int) + 1 > (j : Nat) then (i : Int) + 1 else (j : Nat)) = ((max j (i + 1) : Nat) : Int) := by
        split <;> omega
       rw [Ao]
       have Ip : (cz.set r (.box (az (rd X j) 1 (aC (.int .i64 ((max j (i + 1) : Nat) : Int)))))).box r = some (rd X (max j (i + 1))) := by rw [bf]; simp [az, rd]
       have A5 : eg r (rd X (max j (i + 1))) cz (cz.set r (.box (az (rd X j) 1 (aC (.int .i64 ((max j (i + 1) : Nat) : Int)))))) := ⟨Ip, (gj.refl _ _).set (.inr rfl)⟩
       have wX := Ij.fB sX A5
       have S7 : Grow (cz.set r (.box (az (rd X j) 1 (aC (.int .i64 ((max j (i + 1) : Nat) : Int)))))) v' 78 2 (fl ++ [bM X.L X.E j]).length (oz (fl ++ [bM X.L X.E j])) := by
        have : Grow cz v' 78 2 (fl ++ [bM X.L X.E j]).length (oz (fl ++ [bM X.L X.E j])) := by simpa [oz] using g1
        exact this.fB sX A5
       obtain ⟨x, hx⟩ := gA
       have uY := A5.ex.bU fL (kb (A.ex.bU fL hx))
       generalize cz.set r (.box (az (rd X j) 1 (aC (.int .i64 ((max j (i + 1) : Nat) : Int))))) = dm at *
       have Bx : i + 1 <= max j (i + 1) := by omega
       have Yi : max j (i + 1) <= X.L.length := by omega
       generalize max j (i + 1) = q0 at *
       clear Ao g1 g2 g3 kb sX Ij A5
       refine ⟨fun m' w2 w5 w8 w9 af => ∃ q fq, m' = X.L.length - q /\ w2 = .box b2 0 /\ w5 = .box r 0 /\ w8 = v8 /\ w9 = v' /\ i < q /\ q <= X.L.length /\ X.L.length - q <= fq /\ iH X.L fq q = iH X.L X.L.length q0 /\ Grow af v8 87 1 ks.length ks /\ Grow af v' 78 2 (fl ++ [bM X.L X.E j]).length (oz (fl ++ [bM X.L X.E j])) /\ af.box r = some (rd X q) /\ (∃ x, af.box b2 = some [x]),
        ⟨_, q0, X.L.length, rfl, rfl, rfl, rfl, rfl, by omega, Yi, by omega, rfl, wX, S7, Ip, _, uY⟩, ?_⟩
       clear wX S7 Ip uY
       rintro m' w2 w5 w8 w9 gM ⟨q, fq, rfl, rfl, rfl, rfl, rfl, hiq, hq, X7, FO, S6, Yb, DE, Bh⟩
       simp only [bu, aJ, aR, bW, jC DE, rd, List.drop, fw, X.tr.len, bh, aS, aM, iz]
       by_cases LU : q < X.L.length
       · have Q7 : (q : Int) < X.L.length := by omega
         obtain ⟨t, ht⟩ : ∃ t, X.L[q]? = some t := ⟨X.L[q], by simp [LU]⟩
         obtain ⟨c, hc, lD⟩ := X.tr.at (sz := 3) (e := 51) LU
         obtain ⟨rest, hd⟩ := pO ht
         have Ig := zt (some t)
         rw [<- ht, IU] at Ig
         simp only [Q7, cj, dN, bG, aJ, eN, bu, aR, bW, jC DE, rd, List.drop, fw, lD, jX, hd, zd]
         have nK : (jo t ++ rest).take 3 = pN (X.L[q]?) := by rw [ht]; simp [jo, pN]
         rw [nK]
         refine ⟨by simp, by simp [jo], _, Ig, ?_⟩
         cases fq with
         | zero => omega
         | succ fq =>
         cases Yc : oF X.L q with
         | false =>
           have aaY : iH X.L (fq + 1) q = iH X.L fq (q + 1) := by rw [iH, if_pos ⟨LU, Yc⟩]
           rw [aaY] at FO
           simp only [eN, cZ, aJ, dk, aF, if_true, aK, bu, aj, aR, bW]
           rw [eG DE]
           simp only [rd, List.drop, bq, cI]
           refine ⟨bp (by omega) (by omega), ?_⟩
           rw [cT DE]
           refine ⟨⟨rfl, rfl, by simp [rd]⟩, ?_⟩
           have hr7 : (gM.set r (.box (az (rd X q) 1 (aC (.int .i64 ((q : Int) + 1)))))).box r = some (rd X (q + 1)) := by rw [bf]; simp [az, rd]
           have A7 : eg r (rd X (q + 1)) gM (gM.set r (.box (az (rd X q) 1 (aC (.int .i64 ((q : Int) + 1)))))) := ⟨hr7, (gj.refl _ _).set (.inr rfl)⟩
           obtain ⟨y, hy⟩ := Bh
           exact ⟨X.L.length - (q + 1), by omega, q + 1, fq, rfl, rfl, rfl, rfl, rfl, by omega, LU, by omega, FO, S6.fB DE A7, Yb.fB DE A7, hr7, y, A7.ex.bU fL hy⟩
         | true =>
           have JV : iH X.L (fq + 1) q = q := by rw [iH, if_neg (by rw [Yc]; simp)]
           simp only [eN, cZ, aJ, cC, aF, if_true, aE]
           exact ⟨X.L.length - q, by omega, q, f, acc, ks, fl ++ [bM X.L X.E j], rfl, rfl, rfl, hq, by omega, by rw [<- hit, <- FO, JV], by omega, by simp; omega, hk, S6, Bm, Yb, fun h => by simp at h, DE, Bh⟩
       · have Q7 : ¬ (q : Int) < X.L.length := by omega
         have JV : iH X.L fq q = q := by
          cases fq with
          | zero => rfl
          | succ fq => rw [iH, if_neg (fun h => LU h.1)]
         simp only [Q7, cM, show (false == true) = false from rfl, bz, aF, bH, if_false, aJ, aE]
         exact ⟨X.L.length - q, by omega, q, f, acc, ks, fl ++ [bM X.L X.E j], rfl, rfl, rfl, hq, by omega, by rw [<- hit, <- FO, JV], by omega, by simp; omega, hk, S6, Bm, Yb, fun h => by simp at h, DE, Bh⟩
   · rw [if_neg (by omega)] at hit
     have hv : ks = [] /\ v8 = .ak \/ ∃ c, v8 = .vec ks.length c ks := by
      rcases hg with ⟨_, h1, h2⟩ | ⟨τ, r1, _, _⟩
      · exact .inl ⟨h1, h2⟩
      · exact .inr ⟨_, r1⟩
     refine G7 hv hk (by omega) fun bQ e3 => ?_
     simp only [bg, bC, List.drop, bq]
     rw [du]
     intro Xk XR
     obtain ⟨x, hx⟩ := gA
     have m2 := ((e3.new XR (x := .box [.ak])).bU hx)
     have n2 := XR.da (e3.bU hx)
     have m14 : (bQ.new Xk (.box [.ak])).box Xk = some [.ak] := aW
     generalize bQ.new Xk (.box [.ak]) = cz at *
     rw [cT m14]
     refine ⟨⟨rfl, rfl, by simp⟩, ?_⟩
     rw [<- hit] at mL
     simp only at mL
     simp only [cg, aj]
     by_cases he : (dA acc).2 = 0
     · simp only [he, cj, cC, aE]
       rw [if_pos he] at mL
       rw [ow bf]
       refine ⟨by simp [az], ?_⟩
       have : (List.take 1 (List.drop 0 (az [AV.ak] 0 (aC (.agg [dy (dA acc).1]))))) = [dy (dA acc).1] := by simp [az]
       rw [this]
       exact fin _ (dA acc).1 v9 0 _ ⟨x, by rw [bK n2]; exact m2⟩ mL rfl rfl fun gY => zQ 2 hh X9
     · simp only [he, cM, dk, aK]
       rw [if_neg he] at mL
       refine gz [.ak] rfl ?_
       exact fin _ [] _ (dA acc).2 _ ⟨x, by rw [bK n2]; exact m2⟩ mL rfl rfl fun gY => rfl
end Go.Rip
