/- Lemmas for the proof: no conditions. -/
import Derived.Test.YtnfpmiiopiinbaaGreatDoorRipZz
import Derived.Test.YtnfpmiiopiinbaaGreatDoorRipX
import Derived.Test.YtnfpmiiopiinbaaGreatDoorRipAw
set_option linter.unusedVariables false
set_option linter.unusedSimpArgs false
set_option linter.loopingSimpArgs false
namespace Go.Rip
open Go.Proofs Go.RowKit
theorem Gf (U : St) (l : List Nd) : gH U (dy l) l := by
 unfold dy
 split
 · rename_i h; subst h; exact .inl (.inl ⟨rfl, rfl⟩)
 · exact .inl (.inr ⟨_, rfl⟩)
theorem D9 (l1 l2 : List Nd) (h1 : l1.length <= 1000000) (h2 : l2.length <= 1000000) : Pure K 22 [.agg [dy l1], .agg [dy l2]] (.bool (decide (l1 = l2))) := by
 refine Pure.of (by simp [cL, closed, oN]) rfl (fun U => rfl) fun R hR => ?_
 refine RW ?_
 unfold TS
 rw [jR rfl]
 intro b1 hY
 rw [jR rfl]
 intro b2 gA
 have m1 : ((bX ⟨.e, 0⟩).new b1 (.box (aC (.agg [dy l1])))).box b1 = some [dy l1] := aW
 have MA := (cE gA (x := .box (aC (.agg [dy l2])))).bU m1
 have m2 : (((bX ⟨.e, 0⟩).new b1 (.box (aC (.agg [dy l1])))).new b2 (.box (aC (.agg [dy l2])))).box b2 = some [dy l2] := aW
 generalize ((bX _).new b1 _).new b2 _ = U at *
 simp only [aR, aj, bW]
 refine qw MA rfl ?_
 refine qw m2 rfl ?_
 exact Vj (Gf _ _) (Gf _ _) h1 h2 (al.mk (hR _))
theorem XA {l : List Int} {i : Nat} {x : Int} (h : l[i]? = some x) : ∃ r, (oz l).drop (i * 2) = [.int .i64 x, .int .i64 4] ++ r := by
 induction l generalizing i with
 | nil => simp at h
 | cons a l ih =>
   cases i with
   | zero => simp at h; subst h; exact ⟨oz l, rfl⟩
   | succ i =>
     obtain ⟨r, hr⟩ := ih (i := i) (by simpa using h)
     refine ⟨r, ?_⟩
     rw [<- hr, Nat.add_mul, show i * 2 + 1 * 2 = 2 + i * 2 by omega, <- List.drop_drop]
     rfl
theorem Hk (l : List Int) (hl : l.length <= 100000) : Pure K 23 [sP l, sP l] (.bool true) := by
 intro U R hR
 refine RX ?_
 unfold TT
 have hlen : bD (some false) (sP l) = .val (.int .i64 l.length) := by
  unfold sP; split
  · rename_i h; subst h; rfl
  · rfl
 rw [hlen, aj]
 refine G6 ?_
 simp only [cj, cC]
 refine fK ?_
 refine ⟨fun m v0 v1 v5 af => ∃ i : Nat, m = l.length - i /\ i <= l.length /\ v0 = sP l /\ v1 = sP l /\ v5 = .int .i64 (i : Nat) /\ af = U, ⟨_, 0, rfl, by omega, rfl, rfl, rfl, rfl⟩, ?_⟩
 rintro m v0 v1 v5 af ⟨i, rfl, hi, rfl, rfl, rfl, rfl⟩
 rw [hlen, aj]
 refine vF (fun aL => ?_) fun gk => al.mk hR
 have aL : i < l.length := by omega
 have hx : l[i]? = some l[i] := by simp [aL]
 obtain ⟨r, hr⟩ := XA hx
 have cH : l ≠ [] := by intro e; subst e; simp at aL
 have hv : sP l = .vec l.length .gC (oz l) := by unfold sP; rw [if_neg cH]
 rw [hv, Gv, dR, hr]
 refine ⟨by omega, ?_⟩
 rw [zd]
 refine ⟨by simp, ?_⟩
 rw [Gv, dR, hr]
 refine ⟨by omega, ?_⟩
 rw [zd]
 refine ⟨by simp, ?_⟩
 have heq : aq .neq (BT.mk false false false (some [.i, .i])) false (.agg (([AV.int .i64 l[i], AV.int .i64 4] ++ r).take 2)) (.agg (([AV.int .i64 l[i], AV.int .i64 4] ++ r).take 2)) = .val (.bool false) := by
  have : H0 (some [.i, .i]) [AV.int .i64 l[i], AV.int .i64 4] [AV.int .i64 l[i], AV.int .i64 4] = some true := by
   simp [H0, nG]
  simp only [nT, List.take_succ_cons, List.take_zero, aq, this, tp]
  rfl
 rw [heq, aJ]
 refine fK ?_
 rw [cI]
 exact ⟨bp (by omega) (by omega), l.length - (i + 1), by omega, i + 1, rfl, by omega, hv ▸ rfl, hv ▸ rfl, by simp, rfl⟩
theorem Ck (l : List Nd) : (dA l).1.length <= 900 := by
 unfold dA
 by_cases h : 900 < (node 1 [] 0 0 0 l).length \/ lR (node 1 [] 0 0 0 l) = true
 · rw [if_pos h]; simp
 · rw [if_neg h]; have : ¬ 900 < (node 1 [] 0 0 0 l).length := fun e => h (.inl e); simp only; omega
theorem BS (s : aZ) : (fp s).1.length <= 1000000 := by
 unfold fp
 cases jf s with
 | bad p e => simp
 | ok L =>
   simp only
   cases nM L s.length (L.length + 1) [] 0 with
   | ok l j => have := Ck l; simp only; omega
   | bad j => simp
   | out => simp
theorem yy (s : aZ) : (dw s).1.length <= 1000000 := by
 unfold dw
 cases jf s with
 | bad p e => simp
 | ok L =>
   simp only
   have := Ck (mC L s.length (L.length + 1) [] [] 0).1
   by_cases h : (dA (mC L s.length (L.length + 1) [] [] 0).1).2 = 0
   · rw [if_pos h]; simp only; omega
   · rw [if_neg h]; simp
theorem C2 (L : List Tk) (E : Nat) : ∀ (f : Nat) (acc : List Nd) (fl : List Int) (i : Nat), (mC L E f acc fl i).2.length <= fl.length + f
 | 0, acc, fl, i => by simp [mC]
 | f + 1, acc, fl, i => by
   rw [mC]
   split
   · split
     · have := C2 L E f (acc ++ ‹_›) fl ‹_›; omega
     · have := C2 L E f acc (fl ++ [bM L E ‹_›]) (iH L L.length (max ‹_› (i + 1)))
       simp at this; omega
     · simp
   · simp
theorem HF (s : aZ) : (dw s).2.1.length <= 100000 := by
 unfold dw
 cases hL : jf s with
 | bad p e => simp
 | ok L =>
   simp only
   have h1 := C2 L s.length (L.length + 1) [] [] 0
   have h2 := (CO hL).2
   by_cases h : (dA (mC L s.length (L.length + 1) [] [] 0).1).2 = 0
   · rw [if_pos h]; simp only [qm] at h1 ⊢; omega
   · rw [if_neg h]; simp
theorem KA (s : aZ) : Pure K 3 [.str s] (.bool true) := by
 refine Pure.of rfl rfl (fun U => rfl) fun R hR => ?_
 refine Vk ?_
 unfold Zn
 rw [eM, aj]
 refine yR (fT (fun h => ?_) fun h => ?_)
 · exact AU.go (al.mk (hR _))
 have hs : s.length <= 3000 := by omega
 have hag : ∀ l, aC (.agg [dy l]) = [dy l] := fun _ => rfl
 refine (Kt s hs).go ?_
 simp only [rG, bC, List.drop, bq]
 rw [du]
 intro b3 lB
 have m3 : ((bX ⟨.e, 0⟩).new b3 (.box [.ak])).box b3 = some [.ak] := aW
 generalize (bX _).new b3 _ = ay at *
 rw [cT m3]
 refine ⟨⟨rfl, rfl, by simp⟩, ?_⟩
 have n3 : (ay.set b3 (.box (az [.ak] 0 (aC (.agg [dy (fp s).1]))))).box b3 = some [dy (fp s).1] := by rw [bf]; rfl
 generalize ay.set b3 (.box (az [.ak] 0 (aC (.agg [dy (fp s).1])))) = bP at *
 refine (HJ s hs).go ?_
 simp only [rG, bC, List.drop, bq]
 rw [du]
 intro b6 Bh
 have m6 : (bP.new b6 (.box [.ak])).box b6 = some [.ak] := aW
 have ack := Bh.da n3
 have n3 := (cE Bh (x := .box [.ak])).bU n3
 generalize bP.new b6 (.box [.ak]) = bI at *
 rw [cT m6]
 refine ⟨⟨rfl, rfl, by simp⟩, ?_⟩
 have n6 : (bI.set b6 (.box (az [.ak] 0 (aC (.agg [dy (fp s).1]))))).box b6 = some [dy (fp s).1] := by rw [bf]; rfl
 have n3 : (bI.set b6 (.box (az [.ak] 0 (aC (.agg [dy (fp s).1]))))).box b3 = some [dy (fp s).1] := by rw [bK ack]; exact n3
 generalize bI.set b6 (.box (az [.ak] 0 (aC (.agg [dy (fp s).1])))) = bQ at *
 refine (Gz s hs).go ?_
 simp only [nU, bC, List.drop, bq]
 rw [du]
 intro b9 Bi
 have m9 : (bQ.new b9 (.box [.ak])).box b9 = some [.ak] := aW
 have acm := Bi.da n3
 have acn := Bi.da n6
 have n3 := (cE Bi (x := .box [.ak])).bU n3
 have n6 := (cE Bi (x := .box [.ak])).bU n6
 generalize bQ.new b9 (.box [.ak]) = cz at *
 rw [cT m9]
 refine ⟨⟨rfl, rfl, by simp⟩, ?_⟩
 have n9 : (cz.set b9 (.box (az [.ak] 0 (aC (.agg [dy (dw s).1]))))).box b9 = some [dy (dw s).1] := by rw [bf]; rfl
 have n3 : (cz.set b9 (.box (az [.ak] 0 (aC (.agg [dy (dw s).1]))))).box b3 = some [dy (fp s).1] := by rw [bK acm]; exact n3
 have n6 : (cz.set b9 (.box (az [.ak] 0 (aC (.agg [dy (dw s).1]))))).box b6 = some [dy (fp s).1] := by rw [bK acn]; exact n6
 generalize cz.set b9 (.box (az [.ak] 0 (aC (.agg [dy (dw s).1])))) = dm at *
 refine (Eo s hs).go ?_
 simp only [nU, bC, List.drop, bq]
 rw [du]
 intro uQ vQ
 have m12 : (dm.new uQ (.box [.ak])).box uQ = some [.ak] := aW
 have ne3 := vQ.da n3
 have ne6 := vQ.da n6
 have ne9 := vQ.da n9
 have n3 := (cE vQ (x := .box [.ak])).bU n3
 have n6 := (cE vQ (x := .box [.ak])).bU n6
 have n9 := (cE vQ (x := .box [.ak])).bU n9
 generalize dm.new uQ (.box [.ak]) = gM at *
 rw [cT m12]
 refine ⟨⟨rfl, rfl, by simp⟩, ?_⟩
 have n12 : (gM.set uQ (.box (az [.ak] 0 (aC (.agg [dy (dw s).1]))))).box uQ = some [dy (dw s).1] := by rw [bf]; rfl
 have n3 : (gM.set uQ (.box (az [.ak] 0 (aC (.agg [dy (dw s).1]))))).box b3 = some [dy (fp s).1] := by rw [bK ne3]; exact n3
 have n6 : (gM.set uQ (.box (az [.ak] 0 (aC (.agg [dy (dw s).1]))))).box b6 = some [dy (fp s).1] := by rw [bK ne6]; exact n6
 have n9 : (gM.set uQ (.box (az [.ak] 0 (aC (.agg [dy (dw s).1]))))).box b9 = some [dy (dw s).1] := by rw [bK ne9]; exact n9
 generalize gM.set uQ (.box (az [.ak] 0 (aC (.agg [dy (dw s).1])))) = mT at *
 have Eu : ∀ {b : Nat} {x : AV} {kq : AV -> Prop}, mT.box b = some [x] -> kq (.agg [x]) -> ae K (.bool true) (av (some (true, 1)) (.box b 0) mT) kq := fun hb hk => by
  refine lj ?_
  rw [BV hb]
  exact ⟨by simp, hk⟩
 have TM := D9 (fp s).1 (fp s).1 (BS s) (BS s)
 have TN := D9 (dw s).1 (dw s).1 (yy s) (yy s)
 simp only [cj] at TM TN
 refine fz ?_
 simp only [cj, aS, dN]
 refine c8 (c8 ?_)
 rw [aV]
 simp only [cj]
 refine c8 ?_
 simp only [aF, if_true, aj, aS, dN]
 refine Eu n3 (Eu n6 (mX TM ?_))
 simp only [aF, if_true, aj, aS, dN]
 refine c8 (c8 ?_)
 rw [aV]
 simp only [cj]
 refine c8 ?_
 simp only [aF, if_true, aj, aS, dN]
 refine Eu n9 (Eu n12 (mX TN ?_))
 simp only [aF, if_true, aj, aS, dN]
 refine c8 (c8 (mX (Hk _ (HF s)) ?_))
 simp only [aF, if_true, aj, aS, dN]
 refine mX AU ?_
 exact al.mk (hR _)
end Go.Rip
