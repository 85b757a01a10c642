/- Lemmas for the proof: no conditions. -/
import Derived.Test.YtnfpmiiopiinbaaGreatDoorRipZz
import Derived.Test.YtnfpmiiopiinbaaGreatDoorRipY
import Derived.Test.YtnfpmiiopiinbaaGreatDoorRipQ
set_option linter.unusedVariables false
set_option linter.unusedSimpArgs false
set_option linter.loopingSimpArgs false
namespace Go.Rip
open Go.Proofs Go.RowKit
def sx : List Int := (List.range 37).map fun i => ((i : Nat) : Int) + 1
theorem GB {k : Int} (h : k < 1 \/ 37 < k) : ∀ j ∈ sx, j ≠ k := by
 intro j hj
 simp only [sx, List.mem_map, List.mem_range] at hj
 obtain ⟨i, hi, rfl⟩ := hj
 omega
theorem Ig : ∃ vs, mD = .eL (sx.map (.int .u8)) vs := ⟨_, by unfold mD sx; rfl⟩
theorem look_ok (k : Int) (U : St) : fx (some (.i, 204)) (some (.agg [AV.bool false, AV.bool false, AV.bool false, AV.ax])) mD (.int .u8 k) true U = .val (match eC k with | some f => .aO [.agg (kV f), .bool true] | none => .aO [Eg, .bool false]) := by
 obtain ⟨vs, vp⟩ := Ig
 rw [vp]
 show kg .i (.int .u8 k) Eg true (sx.map (.int .u8)) vs = _
 by_cases h : k < 1 \/ 37 < k
 · rw [mC h]
   exact Bq sx vs (GB h)
 · obtain ⟨n, rfl⟩ : ∃ n : Nat, k = n := ⟨k.toNat, by omega⟩
   have := Hj ⟨n, by omega⟩
   unfold Jz at this
   rw [vp] at this
   simp only at this
   split at this
   · rename_i v hv
     rw [hv, sr this]
     cases eC n <;> rfl
   · cases this
theorem dX.Ah {U : St} {v : AV} {l : List Nd} (h : dX v l.length (cF l)) : hU U v l := by
 rcases h with ⟨h0, _, h1⟩ | ⟨c, h1⟩
 · exact .inl (.inl ⟨h1, rX.1 h0⟩)
 · exact .inl (.inr ⟨c, h1⟩)
theorem CF {k : Int} {f : Ca} (h : eC k = some f) : f.kids.length <= 100 /\ ∀ s ∈ f.kids, s.least <= 1000 /\ s.mq <= 1000 := by
 have hk : 1 <= k /\ k <= 37 := by
  by_cases h1 : k < 1 \/ 37 < k
  · rw [mC h1] at h; cases h
  · omega
 obtain ⟨n, rfl⟩ : ∃ n : Nat, k = n := ⟨k.toNat, by omega⟩
 have all : ∀ n : Fin 38, (match eC ((n.val : Nat) : Int) with | some f => decide (f.kids.length <= 100) && f.kids.all fun s => decide (s.least <= 1000 /\ s.mq <= 1000) | none => true) = true := by decide +kernel
 have := all ⟨n, by omega⟩
 simp only [h, bP, cL, dP] at this
 exact this
def jI (U : St) (bs : List (Nat × List AV)) : Prop := ∀ p ∈ bs, U.box p.1 = some p.2
section
variable {U ae : St} {bs : List (Nat × List AV)} {b : Nat} {x : List AV}
theorem jI.o0 (h : jI U bs) (e : cH U ae) : jI ae bs := fun p hp => e.bL (h p hp)
theorem jI.cons (h : jI U bs) (k : U.box b = some x) : jI U ((b, x) :: bs) := fun p hp => by
 rcases eA.1 hp with rfl | hp
 · exact k
 · exact h p hp
theorem jI.set (h : jI U bs) (hb : ∀ p ∈ bs, p.1 ≠ b) {y : Live} : jI (U.set b y) bs := fun p hp => by
 rw [aY (hb p hp)]; exact h p hp
theorem jI.del (h : jI U bs) (hb : ∀ p ∈ bs, p.1 ≠ b) : jI (U.del b) bs := fun p hp => by
 rw [hX (hb p hp)]; exact h p hp
theorem jI.fresh (h : jI U bs) (f : U.cN b) : ∀ p ∈ bs, p.1 ≠ b := fun p hp => f.cD (h p hp)
end
theorem Yk {e : TypeId} {x : AV} {z : AV} {kq : AV -> Prop} (hx : x.cS = true) (hc : aA x = [x]) (hk : kq (.vec 1 .full [x])) : az K (aM (some (e, 1)) (some [z]) 1 false [(0, x)]) kq := by
 rw [x6]
 refine ⟨by omega, ?_⟩
 rw [vJ (o := 0) (s := 1) rfl]
 refine ⟨⟨hx, by rw [hc]; rfl, by simp [bN]⟩, ?_⟩
 rw [Ap, hc]
 exact ⟨rfl, hk⟩
theorem fm.loop {aE U : St} {v : AV} {e : TypeId} {sz n : Nat} {l : List AV} {o : Nat} {L L' : eZ} (h : fm aE U v e sz n l) (ho : U.loop o = some L) (hx : cH aE (U.set o (.loop L'))) : fm aE (U.set o (.loop L')) v e sz n l := by
 refine ⟨?_, h.z, h.t, hx⟩
 rcases h.g with g | ⟨τ, r1, r2, r3⟩
 · exact .inl g
 · refine .inr ⟨τ, r1, ?_, r3⟩
   rw [ib]; exact r2
   rintro rfl
   unfold St.tok at r2; unfold St.loop at ho
   split at ho
   · rename_i e; simp [e] at r2
   · cases ho
theorem Dl {l : List Nd} {ks : List Nat} {k : Nat} {x : Nd} (h : l[k]? = some x) : fP l (ks ++ [k]) = fP l ks ++ [x.kind] := by simp [fP, h]
theorem RN {U : St} {R : cB -> St -> Prop} {v : AV} {l : List Nd} {n : Nat} {x : Nd} (hv : dX v l.length (cF l)) (hx : l[n]? = some x) (hl : l.length <= 10000) (fN : x.text.length <= 3000) (lg : ∀ ae, cH U ae)
 (h : ∀ ae, cH U ae -> R (.ret (.bool (gC l n x))) ae) : af K 131 [.agg [v], .int .i64 (n : Nat), mD] U R := by
 refine J8 ?_
 unfold J7
 have Zi := (dy.1 hx).1
 rw [dO rfl]
 intro b3 gY
 have k3 : (U.new b3 (.box (aA (.agg [v])))).box b3 = some [v] := aN
 have e1 := bH gY (x := .box (aA (.agg [v])))
 generalize U.new b3 (.box (aA (.agg [v]))) = bT at *
 rw [dO rfl]
 intro b4 o5
 have k4 : (bT.new b4 (.box (aA (.int .i64 (n : Nat))))).box b4 = some [.int .i64 (n : Nat)] := aN
 have Dx := o5.cD k3
 have e2 := e1.new o5 (x := .box (aA (.int .i64 (n : Nat))))
 have k3 := (bH o5 (x := .box (aA (.int .i64 (n : Nat))))).bL k3
 generalize bT.new b4 (.box (aA (.int .i64 (n : Nat)))) = bR at *
 rw [dQ]
 intro b6 qU
 have k6 : (bR.new b6 (.box [.bool false])).box b6 = some [.bool false] := aN
 have n36 := qU.cD k3
 have n46 := qU.cD k4
 have f6 : U.live b6 = none := e2.fresh qU.1
 have e3 := e2.new qU (x := .box [.bool false])
 have k3 := (bH qU (x := .box [.bool false])).bL k3
 have k4 := (bH qU (x := .box [.bool false])).bL k4
 generalize bR.new b6 (.box [.bool false]) = c8 at *
 simp only [aV, ai, cq]
 refine et k3 rfl ?_
 refine et k4 rfl ?_
 refine HI hv hx fun r => ?_
 rw [AF]
 refine ⟨by simp [cM], ?_⟩
 have CL : (cM x ++ r).take 6 = cM x := by simp [cM]
 rw [CL, dQ]
 intro b7 qV
 have k7 : (c8.new b7 (.box [AV.int .u8 0, AV.str [], AV.int .i64 0, AV.int .i64 0, AV.int .i64 0, AV.int .i64 0])).box b7 = some [AV.int .u8 0, AV.str [], AV.int .i64 0, AV.int .i64 0, AV.int .i64 0, AV.int .i64 0] := aN
 have n37 := qV.cD k3
 have n47 := qV.cD k4
 have n67 := qV.cD k6
 have f7 : U.live b7 = none := e3.fresh qV.1
 have e4 := e3.new qV (x := .box [AV.int .u8 0, AV.str [], AV.int .i64 0, AV.int .i64 0, AV.int .i64 0, AV.int .i64 0])
 have en := bH qV (x := .box [AV.int .u8 0, AV.str [], AV.int .i64 0, AV.int .i64 0, AV.int .i64 0, AV.int .i64 0])
 have k3 := en.bL k3
 have k4 := en.bL k4
 have k6 := en.bL k6
 clear en
 generalize c8.new b7 (.box [AV.int .u8 0, AV.str [], AV.int .i64 0, AV.int .i64 0, AV.int .i64 0, AV.int .i64 0]) = dq at *
 rw [dD k7]
 refine ⟨⟨rfl, rfl, by simp [cM]⟩, ?_⟩
 have j7 : (dq.set b7 (.box (aH [AV.int .u8 0, AV.str [], AV.int .i64 0, AV.int .i64 0, AV.int .i64 0, AV.int .i64 0] 0 (aA (.agg (cM x)))))).box b7 = some (cM x) := by rw [bo]; rfl
 have k3 : (dq.set b7 (.box (aH [AV.int .u8 0, AV.str [], AV.int .i64 0, AV.int .i64 0, AV.int .i64 0, AV.int .i64 0] 0 (aA (.agg (cM x)))))).box b3 = some [v] := by rw [aY n37]; exact k3
 have k4 : (dq.set b7 (.box (aH [AV.int .u8 0, AV.str [], AV.int .i64 0, AV.int .i64 0, AV.int .i64 0, AV.int .i64 0] 0 (aA (.agg (cM x)))))).box b4 = some [.int .i64 (n : Nat)] := by rw [aY n47]; exact k4
 have k6 : (dq.set b7 (.box (aH [AV.int .u8 0, AV.str [], AV.int .i64 0, AV.int .i64 0, AV.int .i64 0, AV.int .i64 0] 0 (aA (.agg (cM x)))))).box b6 = some [.bool false] := by rw [aY n67]; exact k6
 have e5 := e4.set f7 (x := .box (aH [AV.int .u8 0, AV.str [], AV.int .i64 0, AV.int .i64 0, AV.int .i64 0, AV.int .i64 0] 0 (aA (.agg (cM x)))))
 generalize dq.set b7 (.box (aH [AV.int .u8 0, AV.str [], AV.int .i64 0, AV.int .i64 0, AV.int .i64 0, AV.int .i64 0] 0 (aA (.agg (cM x))))) = eh at *
 clear k7 gY o5 qU qV e1 e2 e3 e4
 refine et j7 rfl ?_
 rw [look_ok, ai]
 have ret : ∀ (q : Bool) (ae : St), cH U ae -> (∃ y, ae.box b6 = some [y]) -> gC l n x = q -> (aQ (some (false, 1)) (.box b6 0) (.bool q) ae).wp K ae (fun _ U => bF (some (false, 1)) (.box b6 0) U fun r0 => aj R r0 U) (aa R) := by
  intro q ae e ⟨y, hy⟩ hq
  rw [dD hy]
  refine ⟨⟨rfl, rfl, by simp⟩, ?_⟩
  rw [DL bo rfl]
  subst hq
  exact aj.mk (h _ (e.set f6))
 cases hf : eC x.kind with
 | none =>
   have hq : gC l n x = false := by unfold gC; rw [hf]
   simp only [bK, List.drop, bB, Eg]
   rw [dQ]
   intro b8 pt
   have k8 : (eh.new b8 (.box [AV.bool false, AV.bool false, AV.bool false, AV.ax])).box b8 = some [AV.bool false, AV.bool false, AV.bool false, AV.ax] := aN
   have Vv := pt.cD k6
   have e6 := e5.new pt (x := .box [AV.bool false, AV.bool false, AV.bool false, AV.ax])
   have f8 : U.live b8 = none := e5.fresh pt.1
   have k6 := (bH pt (x := .box [AV.bool false, AV.bool false, AV.bool false, AV.ax])).bL k6
   generalize eh.new b8 (.box [AV.bool false, AV.bool false, AV.bool false, AV.ax]) = pb at *
   rw [dD k8]
   refine ⟨⟨rfl, rfl, by simp⟩, ?_⟩
   simp only [cJ, ai, cZ, aI, show (true == false) = false from rfl, aB, a8, gj, ay, if_true]
   exact cu (ret false _ (e6.set f8) ⟨.bool false, by rw [aY Vv]; exact k6⟩ hq)
 | some f =>
   simp only [bK, List.drop, bB]
   rw [dQ]
   intro b8 pt
   have k8 : (eh.new b8 (.box [AV.bool false, AV.bool false, AV.bool false, AV.ax])).box b8 = some [AV.bool false, AV.bool false, AV.bool false, AV.ax] := aN
   have n38 := pt.cD k3
   have n48 := pt.cD k4
   have Vv := pt.cD k6
   have n78 := pt.cD j7
   have e6 := e5.new pt (x := .box [AV.bool false, AV.bool false, AV.bool false, AV.ax])
   have f8 : U.live b8 = none := e5.fresh pt.1
   have en := bH pt (x := .box [AV.bool false, AV.bool false, AV.bool false, AV.ax])
   have k3 := en.bL k3
   have k4 := en.bL k4
   have k6 := en.bL k6
   have j7 := en.bL j7
   clear en
   generalize eh.new b8 (.box [AV.bool false, AV.bool false, AV.bool false, AV.ax]) = pb at *
   have CP : (kV f).length = 4 := rfl
   rw [dD k8]
   refine ⟨⟨rfl, rfl, by simp [CP]⟩, ?_⟩
   have j8 : (pb.set b8 (.box (aH [AV.bool false, AV.bool false, AV.bool false, AV.ax] 0 (aA (.agg (kV f)))))).box b8 = some (kV f) := by rw [bo]; rfl
   have k3 : (pb.set b8 (.box (aH [AV.bool false, AV.bool false, AV.bool false, AV.ax] 0 (aA (.agg (kV f)))))).box b3 = some [v] := by rw [aY n38]; exact k3
   have k4 : (pb.set b8 (.box (aH [AV.bool false, AV.bool false, AV.bool false, AV.ax] 0 (aA (.agg (kV f)))))).box b4 = some [.int .i64 (n : Nat)] := by rw [aY n48]; exact k4
   have k6 : (pb.set b8 (.box (aH [AV.bool false, AV.bool false, AV.bool false, AV.ax] 0 (aA (.agg (kV f)))))).box b6 = some [.bool false] := by rw [aY Vv]; exact k6
   have j7 : (pb.set b8 (.box (aH [AV.bool false, AV.bool false, AV.bool false, AV.ax] 0 (aA (.agg (kV f)))))).box b7 = some (cM x) := by rw [aY n78]; exact j7
   have e7 := e6.set f8 (x := .box (aH [AV.bool false, AV.bool false, AV.bool false, AV.ax] 0 (aA (.agg (kV f)))))
   generalize pb.set b8 (.box (aH [AV.bool false, AV.bool false, AV.bool false, AV.ax] 0 (aA (.agg (kV f))))) = nM at *
   clear k8 pt e5 e6
   have hQ : gC l n x = (decide (1 <= x.size /\ x.size <= (l.length : Int) - n) && (ly x f && ((ff l ((n : Int) + x.size) l.length (n + 1)).all (fun k => decide (1 <= eH l k /\ (k : Int) + eH l k <= n + x.size)) &&
    (decide (((behind l (n + 1) (ff l ((n : Int) + x.size) l.length (n + 1)) : Nat) : Int) = n + x.size) && dk (fP l (ff l ((n : Int) + x.size) l.length (n + 1))) f.kids)))) := by unfold gC; rw [hf]
   simp only [cJ, ai, bU, aI, du, aB, bl, au]
   have hlen : bw (some false) v = .val (.int .i64 l.length) := hv.len
   refine iD (dr k3 rfl ?_)
   rw [hlen, au]
   refine dr k4 rfl ?_
   rw [dH, dp, gD, au]
   refine ⟨aX (by omega) (by omega), ?_⟩
   refine iD (dr j7 rfl (ir (mQ _ _ _) ?_))
   simp only [cJ, au, ay, bm, if_false, ai]
   have bad : gC l n x = false -> (aQ (some (false, 1)) (.box b6 0) (.bool false) nM).wp K nM (fun _ U => bF (some (false, 1)) (.box b6 0) U fun r0 => aj R r0 U) (aa R) := fun hq => ret false _ e7 ⟨_, k6⟩ hq
   by_cases hw : 1 <= x.size /\ x.size <= (l.length : Int) - n
   rotate_left
   · simp only [hw, bZ, cZ, aI, show (true == false) = false from rfl, aB, a8, gj, ay, if_true, ai]
     exact cu (bad (by rw [hQ, decide_eq_false hw]; rfl))
   rw [decide_eq_true hw, Bool.true_and] at hQ
   simp only [hw, bM, bU, aI, du, aB, bl]
   simp only [and_self, bM, bU, aI, du, aB, bl]
   refine iD (dr j8 rfl (iD (dr j7 rfl ?_)))
   rw [jt, au, uR, au]
   have hwt : (!decide (x.text = w_)) = decide (x.text ≠ []) := by
    by_cases h : x.text = [] <;> simp [h, w_]
   rw [hwt]
   simp only [ay, bm, if_false, ai]
   have qT : ly x f = ((f.text == decide (x.text ≠ [])) && ((!f.text || iB x.text) && (gN x.n && (gN x.m && ((f.n || decide (x.n = 0)) && (f.m || decide (x.m = 0))))))) := by
    unfold ly
    have e0 : (x.text != []) = decide (x.text ≠ []) := by by_cases h : x.text = [] <;> simp [h]
    have e1 : (x.n == 0) = decide (x.n = 0) := by by_cases h : x.n = 0 <;> simp [h]
    have e2 : (x.m == 0) = decide (x.m = 0) := by by_cases h : x.m = 0 <;> simp [h]
    rw [e0, e1, e2]; simp only [Bool.and_assoc]
   cases ht : (f.text != decide (x.text ≠ [])) with
   | true =>
     simp only [aI, show (true == false) = false from rfl, aB, a8, gj, ay, if_true, ai]
     refine cu (bad ?_)
     have : (f.text == decide (x.text ≠ [])) = false := by revert ht; cases f.text <;> cases decide (x.text ≠ []) <;> simp
     rw [hQ, qT, this]; rfl
   | false =>
   have vo : (f.text == decide (x.text ≠ [])) = true := by revert ht; cases f.text <;> cases decide (x.text ≠ []) <;> simp
   rw [vo, Bool.true_and] at qT
   simp only [aI, du, aB, bl]
   refine iD (dr j8 rfl ?_)
   simp only [au]
   have nm : ∀ (A : Prop), ((!f.text || iB x.text) = true -> A) ->
    ad K (aq (.bool f.text) true) (ah (some 1) (.box b7 0)) (fun jZ =>
    ad K (aq (.bool f.text) true) (ao (some (false, 1)) jZ nM) (fun v53 =>
    ad K (aq (.bool f.text) true) (av.enter 208 [v53]) (fun lL =>
    ad K (aq (.bool f.text) true) (fi .not lL) (fun iX =>
    az K (aP (.bool f.text) iX (.bool false)) (fun oc =>
    al (if false = true then AV.bool true else oc) ((aQ (some (false, 1)) (.box b6 0) (.bool false) nM).wp K nM (fun _ U => bF (some (false, 1)) (.box b6 0) U fun r0 => aj R r0 U) (aa R)) A))))) := by
    intro A hA
    cases UI : f.text with
    | false =>
      simp only [aI, show (false == true) = false from rfl, aB, a8, ay, bm, if_false, au, ai]
      exact cO (hA (by rw [UI]; rfl))
    | true =>
      simp only [aI, du, aB, bl]
      refine iD (dr j7 rfl (ir (Hn _ fN) ?_))
      simp only [cJ, au, ay, if_true, bm, if_false, ai]
      cases A0 : iB x.text with
      | true => exact cO (hA (by rw [UI, A0]; rfl))
      | false => exact cu (bad (by rw [hQ, qT, UI, A0]; rfl))
   refine nm _ fun A0 => ?_
   clear nm
   rw [A0, Bool.true_and] at qT
   simp only [aV, ai, cq]
   refine et j7 rfl ((mQ _ _ _).go ?_)
   have Iz : ∀ a : Int, decide (0 <= a /\ a <= 1000000) = gN a := fun _ => rfl
   rw [Iz]
   simp only [cJ, ai]
   cases hN : gN x.n with
   | false =>
     simp only [cZ, aI, show (true == false) = false from rfl, aB, a8, gj, ay, if_true, ai]
     exact cu (bad (by rw [hQ, qT, hN]; rfl))
   | true =>
   rw [hN, Bool.true_and] at qT
   simp only [bU, aI, du, aB, bl, au]
   refine dr j7 rfl (ir (mQ _ _ _) ?_)
   rw [Iz]
   simp only [cJ, au, ay, bm, if_false, ai]
   cases hM : gN x.m with
   | false =>
     simp only [cZ, aI, show (true == false) = false from rfl, aB, a8, gj, ay, if_true, ai]
     exact cu (bad (by rw [hQ, qT, hM]; rfl))
   | true =>
   rw [hM, Bool.true_and] at qT
   simp only [bU, aI, du, aB, bl, au]
   refine dr j8 rfl ?_
   simp only [cJ, au]
   have QW : ∀ (kq : AV -> Prop), ((f.n || decide (x.n = 0)) = true -> kq (.bool false)) -> ((f.n || decide (x.n = 0)) = false -> kq (.bool true)) ->
    ad K (aq (.bool !f.n) true) (.val (.box b7 2)) (fun wa => ad K (aq (.bool !f.n) true) (ao (some (false, 1)) wa nM) fun qM => ad K (aq (.bool !f.n) true) (ak .neq (BT.mk false false false none false) true qM (AV.int .i64 0)) fun v75 =>
     az K (aP (.bool !f.n) v75 (.bool false)) kq) := by
    intro kq h1 h2
    cases hfn : f.n with
    | true =>
      simp only [bU, aI, show (false == true) = false from rfl, aB, a8, ay, bm, if_false, au]
      exact h1 (by rw [hfn]; rfl)
    | false =>
      simp only [cZ, aI, du, aB, bl, au]
      refine dr j7 rfl ?_
      rw [bS, au]
      simp only [ay, if_true, au]
      by_cases h0 : x.n = 0
      · simp only [h0, bM, bU]; exact h1 (by simp [h0])
      · simp only [h0, bZ, cZ]; exact h2 (by rw [hfn]; simp [h0])
   have QV : ∀ (kq : AV -> Prop), ((f.m || decide (x.m = 0)) = true -> kq (.bool false)) -> ((f.m || decide (x.m = 0)) = false -> kq (.bool true)) ->
    ad K (aq (.bool !f.m) true) (.val (.box b7 3)) (fun wa => ad K (aq (.bool !f.m) true) (ao (some (false, 1)) wa nM) fun qM => ad K (aq (.bool !f.m) true) (ak .neq (BT.mk false false false none false) true qM (AV.int .i64 0)) fun v75 =>
     az K (aP (.bool !f.m) v75 (.bool false)) kq) := by
    intro kq h1 h2
    cases hfn : f.m with
    | true =>
      simp only [bU, aI, show (false == true) = false from rfl, aB, a8, ay, bm, if_false, au]
      exact h1 (by rw [hfn]; rfl)
    | false =>
      simp only [cZ, aI, du, aB, bl, au]
      refine dr j7 rfl ?_
      rw [bS, au]
      simp only [ay, if_true, au]
      by_cases h0 : x.m = 0
      · simp only [h0, bM, bU]; exact h1 (by simp [h0])
      · simp only [h0, bZ, cZ]; exact h2 (by rw [hfn]; simp [h0])
   refine QW _ (fun hn => ?_) fun hn => ?_
   rotate_left
   · simp only [bm, if_false, aI, show (true == false) = false from rfl, aB, a8, gj, ay, if_true, ai]
     exact cu (bad (by rw [hQ, qT, hn]; rfl))
   rw [hn, Bool.true_and] at qT
   simp only [bm, if_false, aI, du, aB, bl, au]
   refine dr j8 rfl ?_
   simp only [cJ, au]
   refine QV _ (fun hm => ?_) fun hm => ?_
   rotate_left
   · simp only [bm, if_false, ay, if_true, ai]
     exact cu (bad (by rw [hQ, qT, hm]; rfl))
   rw [hm] at qT
   rw [qT, Bool.true_and] at hQ
   simp only [bm, if_false, ay, ai]
   refine cO ?_
   clear QW QV qT bad
   rw [dQ]
   intro pr Ny
   have H7 : jI nM [(b3, [v]), (b4, [.int .i64 (n : Nat)]), (b6, [.bool false]), (b7, cM x), (b8, kV f)] :=
    (((((show jI nM [] from fun p hp => by cases hp).cons j8).cons j7).cons k6).cons k4).cons k3
   have Bj : (nM.new pr (.box [.ax])).box pr = some [.ax] := aN
   have UY := H7.fresh Ny
   have H8 := H7.o0 (bH Ny (x := .box [.ax]))
   generalize nM.new pr (.box [.ax]) = BF at *
   clear Ny H7
   refine et (H8 (b4, [.int .i64 (n : Nat)]) (by simp)) rfl ?_
   rw [cn]
   refine ⟨aX (by omega) (by omega), ?_⟩
   rw [dQ]
   intro gL rN
   have P2 : (BF.new gL (.box [.int .i64 0])).box gL = some [.int .i64 0] := aN
   have UZ := (H8.cons Bj).fresh rN
   have H9 := H8.o0 (bH rN (x := .box [.int .i64 0]))
   have Bj := (bH rN (x := .box [.int .i64 0])).bL Bj
   generalize BF.new gL (.box [.int .i64 0]) = pA at *
   clear rN H8
   rw [dD P2]
   refine ⟨⟨rfl, rfl, by simp⟩, ?_⟩
   have PM : ∀ p ∈ [(b3, [v]), (b4, [.int .i64 (n : Nat)]), (b6, [.bool false]), (b7, cM x), (b8, kV f)], p.1 ≠ gL := fun p hp => UZ p (List.mem_cons_of_mem _ hp)
   have He : pr ≠ gL := UZ (pr, _) (List.mem_cons_self ..)
   have Su := H9.set PM (y := .box (aH [AV.int .i64 0] 0 (aA (.int .i64 ((n : Int) + 1)))))
   have Bj : (pA.set gL (.box (aH [AV.int .i64 0] 0 (aA (.int .i64 ((n : Int) + 1)))))).box pr = some [.ax] := by rw [aY He]; exact Bj
   have P2 : (pA.set gL (.box (aH [AV.int .i64 0] 0 (aA (.int .i64 ((n : Int) + 1)))))).box gL = some [.int .i64 ((n : Int) + 1)] := by rw [bo]; rfl
   generalize pA.set gL (.box (aH [AV.int .i64 0] 0 (aA (.int .i64 ((n : Int) + 1))))) = uq at *
   clear H9
   rw [rD (Su (b3, [v]) (by simp))]
   refine ⟨by simp, ?_⟩
   refine et (Su (b4, [.int .i64 (n : Nat)]) (by simp)) rfl ?_
   refine xS (n := n) (x := x) hv hx (aX (by omega) (by omega)) fun bn be bt abg d1 d2 d3 f1 f2 f3 q1 q2 q3 u1 => ?_
   simp only [bu]
   have H11 := (((Su.o0 u1).cons q3).cons q2).cons q1
   have Bj := u1.bL Bj
   have aaF := u1.bL P2
   have VA : ∀ b y, uq.box b = some y -> b ≠ bn /\ b ≠ be /\ b ≠ bt := fun b y hb =>
    ⟨fun e => dR hb (e ▸ f1), fun e => dR hb (e ▸ f2), fun e => dR hb (e ▸ f3)⟩
   have X6 : ∀ p ∈ [(bn, [AV.int .i64 (n : Nat)]), (be, [.int .i64 ((n : Int) + x.size)]), (bt, [v]), (b3, [v]), (b4, [.int .i64 (n : Nat)]), (b6, [.bool false]), (b7, cM x), (b8, kV f)], p.1 ≠ pr := by
    intro p hp
    have g := VA pr _ (by assumption)
    simp only [eA] at hp
    rcases hp with rfl | rfl | rfl | hp
    · exact g.1.symm
    · exact g.2.1.symm
    · exact g.2.2.symm
    · exact UY p (by simpa using hp)
   have X7 : ∀ p ∈ [(bn, [AV.int .i64 (n : Nat)]), (be, [.int .i64 ((n : Int) + x.size)]), (bt, [v]), (b3, [v]), (b4, [.int .i64 (n : Nat)]), (b6, [.bool false]), (b7, cM x), (b8, kV f)], p.1 ≠ gL := by
    intro p hp
    have g := VA gL _ P2
    simp only [eA] at hp
    rcases hp with rfl | rfl | rfl | hp
    · exact g.1.symm
    · exact g.2.1.symm
    · exact g.2.2.symm
    · exact PM p (by simpa using hp)
   generalize Iq : [(bn, [AV.int .i64 (n : Nat)]), (be, [.int .i64 ((n : Int) + x.size)]), (bt, [v]), (b3, [v]), (b4, [.int .i64 (n : Nat)]), (b6, [.bool false]), (b7, cM x), (b8, kV f)] = bs at *
   have mem : ∀ {ae : St}, jI ae bs -> ae.box bn = some [.int .i64 (n : Nat)] /\ ae.box be = some [.int .i64 ((n : Int) + x.size)] /\ ae.box bt = some [v] /\ ae.box b3 = some [v] /\ ae.box b4 = some [.int .i64 (n : Nat)] /\ ae.box b6 = some [.bool false] /\ ae.box b7 = some (cM x) /\ ae.box b8 = some (kV f) := by
    intro ae hH
    subst Iq
    exact ⟨hH (bn, [.int .i64 (n : Nat)]) (by simp), hH (be, [.int .i64 ((n : Int) + x.size)]) (by simp), hH (bt, [v]) (by simp), hH (b3, [v]) (by simp), hH (b4, [.int .i64 (n : Nat)]) (by simp), hH (b6, [.bool false]) (by simp), hH (b7, cM x) (by simp), hH (b8, kV f) (by simp)⟩
   have UT : ∀ {ae : St} {o : Nat} {L : eZ}, jI ae bs -> ae.loop o = some L -> ∀ p ∈ bs, p.1 ≠ o := fun hH ho p hp => bX (hH p hp) ho
   refine tZ (fun ks ae => jI ae bs /\ (∃ vk, ae.box pr = some [vk] /\ fm U ae vk 5 1 ks.length (eF (fP l ks))) /\ ae.box gL = some [.int .i64 ((behind l (n + 1) ks : Nat) : Int)] /\ ks.all (fun k => decide (1 <= eH l k /\ (k : Int) + eH l k <= n + x.size)) = true) (fun ae => ae.box b6 = some [.bool false] /\ gC l n x = false) hv Zi (by omega) (by omega)
    (fun ks ae hI => ⟨(mem hI.1).1, (mem hI.1).2.1, (mem hI.1).2.2.1⟩) (fun ks ae o L L' hI ho => ?_) (fun ks ae o L hI ho => ?_) (fun ae o L L' hJ ho => ?_) (fun ks fO y ae o L1 q hI hy aJ mY Zh sC rP hL U1 Zo => ?_) (fun ks ae o L gM hI hL => ?_) (fun ae o L hJ hL => ?_) ⟨H11, ⟨_, Bj, by simpa [fP, eF] using fm.nil (lg _)⟩, by simpa [behind] using aaF, rfl⟩
   · obtain ⟨hH, ⟨vk, jM, ma⟩, ux, bq⟩ := hI
     exact ⟨hH.set (UT hH ho), ⟨vk, by rw [aY (bX jM ho)]; exact jM, ma.loop ho (lg _)⟩, by rw [aY (bX ux ho)]; exact ux, bq⟩
   · obtain ⟨hH, ⟨vk, jM, ma⟩, ux, bq⟩ := hI
     have e := bH ho (x := .loop L)
     exact ⟨hH.o0 e, ⟨vk, e.bL jM, ma.mono e⟩, e.bL ux, bq⟩
   · exact ⟨by rw [aY (bX hJ.1 ho)]; exact hJ.1, hJ.2⟩
   · obtain ⟨hH, ⟨vk, jM, ma⟩, ux, bq⟩ := hI
     obtain ⟨mn, me, mt, m3, m4, m6, m7, m8⟩ := mem hH
     refine dr jM rfl ?_
     refine dr m3 rfl ?_
     refine vK hv hy fun r => ?_
     simp only [cQ, au, ej, kJ, cM, jb, eQ]
     refine Yk rfl rfl ?_
     refine zI ma (m := 1) (l2 := [.int .u8 y.kind]) rfl rfl (by omega) (by omega) fun bR v' g2 k2 => ?_
     have lf : ∀ b z, ae.box b = some z -> bR.live b = ae.live b /\ bR.box b = some z := fun b z hb => by
      cases uz : ae.live b with
      | none => exact absurd uz (dR hb)
      | some w =>
        have := k2 b w (fun n' l' qY => by
         rcases ma.g with ⟨_, _, h3⟩ | ⟨τ, r1, r2, _⟩
         · rw [h3] at qY; cases qY
         · rw [r1] at qY; cases qY; exact fe hb r2 rfl) uz
        exact ⟨this, by rw [fW (this.trans uz.symm)]; exact hb⟩
     refine ⟨fun b hb => ?_, ?_⟩
     · simp only [cT, ja, jc, fH, eA, List.not_mem_nil, or_false] at hb
       rcases hb with rfl | rfl
       · exact (lf _ _ m3).1
       · exact (lf _ _ jM).1
     have YQ : jI bR bs := fun p hp => (lf _ _ (hH p hp)).2
     have GG := (lf _ _ ux).2
     have pe := (lf _ _ jM).2
     have nD : v'.cS = true /\ aA v' = [v'] := by
      rcases g2.g with ⟨h0, _, _⟩ | ⟨τ, r1, _, _⟩
      · omega
      · rw [r1]; exact ⟨rfl, rfl⟩
     rw [dD pe]
     refine ⟨⟨nD.1, by rw [nD.2]; rfl, by simp⟩, ?_⟩
     have YR := YQ.set X6 (y := .box (aH [vk] 0 (aA v')))
     have Nv : (bR.set pr (.box (aH [vk] 0 (aA v')))).box gL = some [.int .i64 ((behind l (n + 1) ks : Nat) : Int)] := by rw [aY He.symm]; exact GG
     have Z6 : (bR.set pr (.box (aH [vk] 0 (aA v')))).box pr = some [v'] := by rw [bo, nD.2]; rfl
     have g3 : fm U (bR.set pr (.box (aH [vk] 0 (aA v')))) v' 5 1 (ks.length + 1) (eF (fP l ks) ++ [.int .u8 y.kind]) := by
      refine ⟨?_, g2.z, g2.t, lg _⟩
      rcases g2.g with g | ⟨τ, r1, r2, r3⟩
      · exact .inl g
      · exact .inr ⟨τ, r1, by rw [ib (fe pe r2).symm]; exact r2, r3⟩
     have wX : (bR.set pr (.box (aH [vk] 0 (aA v')))).loop o = some L1 := by
      obtain ⟨_, kl⟩ := u9 ma.g k2
      rw [fA]; exact kl hL
      rw [eM, if_neg (bX pe (kl hL)).symm]
     generalize bR.set pr (.box (aH [vk] 0 (aA v'))) = c8 at *
     clear g2 k2 lf YQ GG pe hH jM ma ux mn me mt m3 m4 m6 m7 m8
     obtain ⟨mn, me, mt, m3, m4, m6, m7, m8⟩ := mem YR
     refine dr m4 rfl ?_
     refine dr m7 rfl ?_
     rw [tU]
     refine ⟨aX (by omega) (by omega), ?_⟩
     have abv := (dy.1 hy).1
     rw [dH, dp, gD, au]
     refine ⟨aX (by omega) (by omega), ?_⟩
     refine dr m3 rfl ?_
     refine vK hv hy fun r => ?_
     simp only [cQ, au, cM, jb, List.drop, kJ, eQ]
     refine ir (mQ _ _ _) ?_
     simp only [cJ, au]
     have A8 : eH l fO = y.size.toNat := by unfold eH; rw [hy]; rfl
     by_cases Zw : 1 <= y.size /\ y.size <= (n : Int) + x.size - fO
     · simp only [Zw, and_self, bM, bU]
       refine cO ?_
       refine et m3 rfl ?_
       refine HI hv hy fun r => ?_
       simp only [cQ, ai, cM, jb, List.drop, og, bB, cn]
       refine ⟨aX (by omega) (by omega), ?_⟩
       rw [dD Nv]
       refine ⟨⟨rfl, rfl, by simp⟩, ?_⟩
       refine U1 _ ⟨YR.set X7, ⟨v', by rw [aY He]; exact Z6, ?_⟩, ?_, ?_⟩ (by omega) ?_
       · have : fm U (c8.set gL (.box (aH [.int .i64 ((behind l (n + 1) ks : Nat) : Int)] 0 (aA (.int .i64 ((fO : Int) + y.size)))))) v' 5 1 (ks.length + 1) (eF (fP l ks) ++ [.int .u8 y.kind]) := by
          refine ⟨?_, g3.z, g3.t, lg _⟩
          rcases g3.g with g | ⟨τ, r1, r2, r3⟩
          · exact .inl g
          · exact .inr ⟨τ, r1, by rw [ib (fe Nv r2).symm]; exact r2, r3⟩
         rw [Dl hy]
         simpa [eF] using this
       · rw [bo, wR, A8]
         have : ((fO + y.size.toNat : Nat) : Int) = (fO : Int) + y.size := by omega
         rw [this]; rfl
       · rw [List.all_append, bq]
         simp only [List.all_cons, List.all_nil, Bool.and_true, Bool.true_and, cL, A8]
         omega
       · rw [fA]; exact wX
         rw [eM, if_neg (bX Nv wX).symm]
     · simp only [Zw, bZ, cZ]
       refine cu ?_
       rw [dD m6]
       refine ⟨⟨rfl, rfl, by simp⟩, ?_⟩
       refine Zo _ ⟨by rw [bo]; rfl, ?_⟩ ?_
       · obtain ⟨r', qm⟩ := rP
         rw [hQ, qm, List.all_append, List.all_cons]
         have : decide (1 <= eH l fO /\ (fO : Int) + eH l fO <= n + x.size) = false := by
          rw [decide_eq_false_iff_not, A8]; omega
         rw [this]; simp
       · rw [fA]; exact wX
         rw [eM, if_neg (bX m6 wX).symm]
   · obtain ⟨hH, ⟨vk, jM, ma⟩, ux, bq⟩ := hI
     have hH' := hH.del (UT hH hL)
     have GG : (ae.del o).box gL = some [.int .i64 ((behind l (n + 1) ks : Nat) : Int)] := by rw [hX (bX ux hL)]; exact ux
     have pe : (ae.del o).box pr = some [vk] := by rw [hX (bX jM hL)]; exact jM
     obtain ⟨mn, me, mt, m3, m4, m6, m7, m8⟩ := mem hH'
     have abo : ks.length <= l.length := by rw [gM]; exact tG _ _ _ _
     have uz : behind l (n + 1) ks <= n + x.size.toNat + n + 1 := by
      clear hQ
      rcases List.eq_nil_or_concat ks with h0 | ⟨ks', k, h0⟩
      · rw [h0]; simp [behind]
        try omega
      · rw [h0, List.concat_eq_append, wR]
        rw [h0, List.concat_eq_append, List.all_append, bP] at bq
        have := bq.2
        simp only [List.all_cons, List.all_nil, Bool.and_true, cL] at this
        omega
     refine et GG rfl ?_
     refine et m4 rfl ?_
     refine et m7 rfl ?_
     rw [cn]
     refine ⟨aX (by omega) (by omega), ?_⟩
     refine er ?_
     rw [<- gM] at hQ
     rw [bq, Bool.true_and] at hQ
     by_cases sA : ((behind l (n + 1) ks : Nat) : Int) = n + x.size
     · rw [decide_eq_true sA, Bool.true_and] at hQ
       simp only [sA, bM, aI, du, aB, bl, aV, au, cq]
       refine dr pe rfl ?_
       refine dr m8 rfl ?_
       refine cu ?_
       have nD : dX vk (fP l ks).length (eF (fP l ks)) := by
        have : (fP l ks).length = ks.length := by simp [fP]
        rw [this]; exact ma.sl
       have kD := CF hf
       refine Ui nD (by simp [fP]; omega) kD.1 kD.2 fun pA e9 => ?_
       simp only [bu, ay, if_true, ai]
       exact ret _ pA (lg _) ⟨_, e9.bL m6⟩ hQ
     · rw [decide_eq_false sA, Bool.false_and] at hQ
       simp only [sA, bZ, aI, show (false == true) = false from rfl, aB, a8, ay, bm, if_false, ai]
       refine cO ?_
       exact ret false _ (lg _) ⟨_, m6⟩ hQ
   · have h6 : (ae.del o).box b6 = some [.bool false] := by rw [hX (bX hJ.1 hL)]; exact hJ.1
     rw [DL h6 rfl]
     refine aj.mk ?_
     have := h (ae.del o) (lg _)
     rw [hJ.2] at this; exact this
end Go.Rip
namespace Go.Rip
open Go.Proofs Go.RowKit
theorem yF (ae : St) : cH (br ⟨.e, 0⟩) ae := fun b x h => by cases h
theorem Jt {v : AV} {l : List Nd} {n : Nat} {x : Nd} (hv : dX v l.length (cF l)) (hc : closed v = true) (hx : l[n]? = some x) (hl : l.length <= 10000) (fN : x.text.length <= 3000) : Pure K 131 [.agg [v], .int .i64 (n : Nat), mD] (.bool (gC l n x)) :=
 Pure.of (by simp [bG, closed, hc, show closed mD = true by kernel_rfl]) rfl (fun U => rfl) fun R hR => RN hv hx hl fN yF fun ae _ => hR ae
def iI (l : List Nd) : Bool := match l[0]? with | none => false | some x0 => decide (x0.kind = 1) && (decide (x0.size = ((l.length : Nat) : Int)) && (List.range l.length).all fun n => match l[n]? with | some x => gC l n x | none => true)
theorem pK {l : List Nd} {x0 : Nd} (h0 : l[0]? = some x0) : iI l = true ↔ (x0.kind = 1 /\ x0.size = l.length /\ ∀ n x, l[n]? = some x -> gC l n x = true) := by
 unfold iI
 rw [h0]
 simp only [bP, cL, dP, List.mem_range]
 refine and_congr_right fun _ => and_congr_right fun _ => ⟨fun h n x hx => ?_, fun h n hn => ?_⟩
 · have := h n (dy.1 hx).1
   rw [hx] at this; exact this
 · obtain ⟨x, hx⟩ : ∃ x, l[n]? = some x := ⟨l[n], by simp [hn]⟩
   rw [hx]; exact h n x hx
theorem JM {l : List Nd} {n : Nat} {x : Nd} (hx : l[n]? = some x) (h : gC l n x = false) : iI l = false := by
 cases h0 : l[0]? with
 | none => unfold iI; rw [h0]
 | some x0 =>
   cases hr : iI l with
   | false => rfl
   | true => rw [((pK h0).1 hr).2.2 n x hx] at h; cases h
theorem Hq {v : AV} {l : List Nd} (hv : dX v l.length (cF l)) (hc : closed v = true) (hl : l.length <= 10000) (fN : ∀ x ∈ l, x.text.length <= 3000) : Pure K 68 [.agg [v]] (.bool (iI l)) := by
 refine Pure.of (by simp [bG, closed, hc]) rfl (fun U => rfl) fun R hR => ?_
 refine Ov ?_
 unfold Qv
 rw [dO rfl]
 intro b1 dK
 have m1 : ((br ⟨.e, 0⟩).new b1 (.box (aA (.agg [v])))).box b1 = some [v] := aN
 generalize (br _).new b1 _ = aE at *
 clear dK
 refine iD (iD (dr m1 rfl ?_))
 rw [hv.len, au, aR, au]
 cases h0 : l[0]? with
 | none =>
   have nS : l.length = 0 := by simpa using h0
   have hq : iI l = false := by unfold iI; rw [h0]
   simp only [nS, Int.natCast_zero, bM, aI, show (true == false) = false from rfl, aB, a8, ay, if_true, gj, au]
   exact cu (aj.mk (by rw [<- hq]; exact hR _))
 | some x0 =>
   have nS : 0 < l.length := (dy.1 h0).1
   have cm : ¬ ((l.length : Int) = 0) := by omega
   have hQ : iI l = (decide (x0.kind = 1) && (decide (x0.size = ((l.length : Nat) : Int)) && (List.range l.length).all fun n => match l[n]? with | some x => gC l n x | none => true)) := by unfold iI; rw [h0]
   simp only [cm, bZ, aI, du, aB, bl]
   refine iD (iD (dr m1 rfl ?_))
   refine vK (i := 0) hv h0 fun r => ?_
   simp only [cQ, au, ej, kJ, cM, jb, eQ, bS, ay, bm, if_false]
   by_cases hk : x0.kind = 1
   rotate_left
   · simp only [hk, bZ, cZ, aI, show (true == false) = false from rfl, aB, a8, ay, if_true, gj, au]
     exact cu (aj.mk (by rw [show false = iI l by rw [hQ]; simp [hk]]; exact hR _))
   simp only [hk, bM, bU, aI, du, aB, bl]
   refine iD (iD (dr m1 rfl ?_))
   refine vK (i := 0) hv h0 fun r => ?_
   simp only [cQ, au, List.drop, kJ, cM, jb, eQ]
   refine iD (iD (dr m1 rfl ?_))
   rw [hv.len, au, bS, au]
   simp only [ay, bm, if_false, au]
   by_cases hs : x0.size = l.length
   rotate_left
   · simp only [hs, bZ, cZ]
     exact cu (aj.mk (by rw [show false = iI l by rw [hQ]; simp [hk, hs]]; exact hR _))
   simp only [hs, bM, bU]
   refine cO (yI.go ?_)
   simp only [aV, ai, cq]
   refine et m1 rfl ?_
   rw [hv.len, ai]
   refine ⟨fun m v1 v3 fq v37 ae => ∃ i : Nat, m = l.length - i /\ i <= l.length /\ v1 = .box b1 0 /\ v3 = mD /\ fq = .int .i64 l.length /\ v37 = .int .i64 (i : Nat) /\ ae = aE /\ ∀ j x, j < i -> l[j]? = some x -> gC l j x = true, ⟨_, 0, rfl, by omega, rfl, rfl, rfl, rfl, rfl, fun j x h => by omega⟩, ?_⟩
   rintro m v1 v3 fq v37 ae ⟨i, rfl, hi, rfl, rfl, rfl, rfl, rfl, bq⟩
   simp only [bj, ai]
   refine dt (fun aJ => ?_) fun gn => ?_
   · have aJ : i < l.length := by omega
     obtain ⟨x, hx⟩ : ∃ x, l[i]? = some x := ⟨l[i], by simp [aJ]⟩
     rw [rD m1]
     refine ⟨by simp, ?_⟩
     refine (Jt hv hc hx hl (fN x (fB hx))).go ?_
     simp only [cJ, ai]
     cases hq : gC l i x with
     | false => exact cu (aj.mk (by rw [<- JM hx hq]; exact hR _))
     | true =>
       refine cO ?_
       rw [cn]
       refine ⟨aX (by omega) (by omega), l.length - (i + 1), by omega, i + 1, rfl, by omega, rfl, rfl, rfl, by simp, rfl, fun j y hj hy => ?_⟩
       by_cases h : j = i
       · subst h; rw [hx] at hy; cases hy; exact hq
       · exact bq j y (by omega) hy
   · refine aj.mk ?_
     have : iI l = true := (pK h0).2 ⟨hk, hs, fun n x hx => bq n x (by have := (dy.1 hx).1; omega) hx⟩
     rw [<- this]; exact hR _
theorem th {v : AV} {l : List Nd} (hv : dX v l.length (cF l)) (hc : closed v = true) (hl : l.length <= 10000) (fN : ∀ x ∈ l, x.text.length <= 3000) : Pure K 30 [.agg [v]] (.int .i64 (gu l)) := by
 refine Pure.of (by simp [bG, closed, hc]) rfl (fun U => rfl) fun R hR => ?_
 refine Od ?_
 unfold Qf
 rw [dO rfl]
 intro b1 dK
 have m1 : ((br ⟨.e, 0⟩).new b1 (.box (aA (.agg [v])))).box b1 = some [v] := aN
 generalize (br _).new b1 _ = aE at *
 clear dK
 simp only [aV, ai, cq]
 refine et m1 rfl ?_
 rw [hv.len, ai]
 simp only [dY, ai]
 refine dt (fun uB => ?_) fun hle => ?_
 · refine aj.mk ?_
   have : gu l = 5 := by unfold gu; rw [if_pos (by omega)]
   rw [<- this]; exact hR _
 rw [rD m1]
 refine ⟨by simp, ?_⟩
 refine oZ [v] rfl ?_
 refine (Hq hv hc hl fN).go ?_
 simp only [cJ, ai]
 have h9 : ¬ 900 < l.length := by omega
 cases hq : iI l with
 | false =>
   refine cu (aj.mk ?_)
   have : gu l = 4 := yy h9 fun h => by
    obtain ⟨t, rfl, h2, h3⟩ := h
    obtain ⟨x, r, e, _⟩ := t.nz
    have h0 : t.flat[0]? = some x := by rw [e]; rfl
    rw [(pK h0).2 ((By h0).2 ⟨t, rfl, h2, h3⟩)] at hq
    cases hq
   rw [<- this]; exact hR _
 | true =>
   refine cO ?_
   rw [rD m1]
   refine ⟨by simp, ?_⟩
   cases h0 : l[0]? with
   | none => unfold iI at hq; rw [h0] at hq; cases hq
   | some x0 =>
     have hr := (pK h0).1 hq
     obtain ⟨t, rfl, h2, h3⟩ := (By h0).1 hr
     have cm : t.flat ≠ [] := by intro e; rw [e] at h0; cases h0
     have dE := (xp cm (by
      obtain ⟨y, r, e, _⟩ := t.nz
      rw [e] at h0 ⊢; simp at h0; subst h0; have := hr.2.1; rw [e] at this; exact this) hr.2.2)
     refine (GC hv hc (by omega) cm (fun x hx => ?_) ?_).go ?_
     · obtain ⟨n, hn, rfl⟩ := List.getElem_of_mem hx
       have := dE.1.2.2 n t.flat[n] (by simp [hn])
       omega
     · have := dE.1.2.1; omega
     · rw [EC]
       have Aa : gu t.flat = if 60 < t.deep \/ 24 < t.kids.length then 5 else 0 := by
        rw [AN t h9]; unfold p6; rw [if_neg (by simp [h2, h3])]
       rw [Aa] at hR
       by_cases hg : 60 < t.deep \/ 24 < t.kids.length
       · rw [if_pos hg] at hR
         have : (decide (60 < t.deep) || decide (24 < t.kids.length)) = true := by simpa using hg
         rw [this]
         exact cu (aj.mk (hR _))
       · rw [if_neg hg] at hR
         have : (decide (60 < t.deep) || decide (24 < t.kids.length)) = false := by simpa using hg
         rw [this]
         exact cO (aj.mk (hR _))
end Go.Rip
