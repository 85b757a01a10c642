/- Lemmas for the proof: no conditions. -/
import Derived.Test.YtnfpmiiopiinbaaGreatDoorRipZz
import Derived.Test.YtnfpmiiopiinbaaGreatDoorRipY
import Derived.Test.YtnfpmiiopiinbaaGreatDoorRipQ
set_option linter.unusedVariables false
set_option linter.unusedSimpArgs false
set_option linter.loopingSimpArgs false
namespace Go.Rip
open Go.Proofs Go.RowKit
def sC : List Int := (List.range 37).map fun i => ((i : Nat) : Int) + 1
theorem GN {k : Int} (h : k < 1 \/ 37 < k) : ∀ j ∈ sC, j ≠ k := by
 intro j hj
 simp only [sC, List.mem_map, List.mem_range] at hj
 obtain ⟨i, hi, rfl⟩ := hj
 omega
theorem Iu : ∃ vs, mI = .eI (sC.map (.int .u8)) vs := ⟨_, by unfold mI sC; rfl⟩
theorem look_ok (k : Int) (U : St) : fq (some (.i, 204)) (some (.agg [AV.bool false, AV.bool false, AV.bool false, AV.al])) mI (.int .u8 k) true U = .val (match et k with | some f => .aQ [.agg (kZ f), .bool true] | none => .aQ [El, .bool false]) := by
 obtain ⟨vs, vp⟩ := Iu
 rw [vp]
 show kn .i (.int .u8 k) El true (sC.map (.int .u8)) vs = _
 by_cases h : k < 1 \/ 37 < k
 · rw [mH h]
   exact Bo sC vs (GN h)
 · obtain ⟨n, rfl⟩ : ∃ n : Nat, k = n := ⟨k.toNat, by omega⟩
   have := Hu ⟨n, by omega⟩
   unfold JL at this
   rw [vp] at this
   simp only at this
   split at this
   · rename_i v hv
     rw [hv, sx this]
     cases et n <;> rfl
   · cases this
theorem eB.Vn {U : St} {v : AV} {l : List Nd} (h : eB v l.length (cw l)) : gI U v l := by
 rcases h with ⟨h0, _, h1⟩ | ⟨c, h1⟩
 · exact .inl (.inl ⟨h1, qL.1 h0⟩)
 · exact .inl (.inr ⟨c, h1⟩)
theorem CG {k : Int} {f : Ax} (h : et k = some f) : f.kids.length <= 100 /\ ∀ s ∈ f.kids, s.least <= 1000 /\ s.my <= 1000 := by
 have hk : 1 <= k /\ k <= 37 := by
  by_cases h1 : k < 1 \/ 37 < k
  · rw [mH h1] at h; cases h
  · omega
 obtain ⟨n, rfl⟩ : ∃ n : Nat, k = n := ⟨k.toNat, by omega⟩
 have all : ∀ n : Fin 38, (match et ((n.val : Nat) : Int) with | some f => decide (f.kids.length <= 100) && f.kids.all fun s => decide (s.least <= 1000 /\ s.my <= 1000) | none => true) = true := by decide +kernel
 have := all ⟨n, by omega⟩
 simp only [h, bN, cP, dJ] at this
 exact this
def jJ (U : St) (bs : List (Nat × List AV)) : Prop := ∀ p ∈ bs, U.box p.1 = some p.2
section
variable {U ae : St} {bs : List (Nat × List AV)} {b : Nat} {x : List AV}
theorem jJ.o9 (h : jJ U bs) (e : cJ U ae) : jJ ae bs := fun p hp => e.bo (h p hp)
theorem jJ.cons (h : jJ U bs) (k : U.box b = some x) : jJ U ((b, x) :: bs) := fun p hp => by
 rcases ep.1 hp with rfl | hp
 · exact k
 · exact h p hp
theorem jJ.set (h : jJ U bs) (hb : ∀ p ∈ bs, p.1 ≠ b) {y : Live} : jJ (U.set b y) bs := fun p hp => by
 rw [aN (hb p hp)]; exact h p hp
theorem jJ.del (h : jJ U bs) (hb : ∀ p ∈ bs, p.1 ≠ b) : jJ (U.del b) bs := fun p hp => by
 rw [fI (hb p hp)]; exact h p hp
theorem jJ.fresh (h : jJ U bs) (f : U.cQ b) : ∀ p ∈ bs, p.1 ≠ b := fun p hp => f.bZ (h p hp)
end
theorem Yb {e : TypeId} {x : AV} {z : AV} {kq : AV -> Prop} (hx : x.cS = true) (hc : ax x = [x]) (hk : kq (.vec 1 .full [x])) : aC K (aP (some (e, 1)) (some [z]) 1 false [(0, x)]) kq := by
 rw [xV]
 refine ⟨by omega, ?_⟩
 rw [vJ (o := 0) (s := 1) rfl]
 refine ⟨⟨hx, by rw [hc]; rfl, by simp [bL]⟩, ?_⟩
 rw [Ad, hc]
 exact ⟨rfl, hk⟩
theorem fj.loop {aF U : St} {v : AV} {e : TypeId} {sz n : Nat} {l : List AV} {o : Nat} {L L' : eY} (h : fj aF U v e sz n l) (ho : U.loop o = some L) (hx : cJ aF (U.set o (.loop L'))) : fj aF (U.set o (.loop L')) v e sz n l := by
 refine ⟨?_, h.z, h.t, hx⟩
 rcases h.g with g | ⟨τ, r1, r2, r3⟩
 · exact .inl g
 · refine .inr ⟨τ, r1, ?_, r3⟩
   rw [jo]; exact r2
   rintro rfl
   unfold St.tok at r2; unfold St.loop at ho
   split at ho
   · rename_i e; simp [e] at r2
   · cases ho
theorem Dl {l : List Nd} {ks : List Nat} {k : Nat} {x : Nd} (h : l[k]? = some x) : fS l (ks ++ [k]) = fS l ks ++ [x.kind] := by simp [fS, h]
theorem RO {U : St} {R : cB -> St -> Prop} {v : AV} {l : List Nd} {n : Nat} {x : Nd} (hv : eB v l.length (cw l)) (hx : l[n]? = some x) (hl : l.length <= 10000) (iy : x.text.length <= 3000) (ln : ∀ ae, cJ U ae)
 (h : ∀ ae, cJ U ae -> R (.ret (.bool (gE l n x))) ae) : af K 131 [.agg [v], .int .i64 (n : Nat), mI] U R := by
 refine Kk ?_
 unfold Kj
 have Y9 := (dm.1 hx).1
 rw [eA rfl]
 intro b3 jN
 have k3 : (U.new b3 (.box (ax (.agg [v])))).box b3 = some [v] := aL
 have e1 := bm jN (x := .box (ax (.agg [v])))
 generalize U.new b3 (.box (ax (.agg [v]))) = bJ at *
 rw [eA rfl]
 intro b4 jk
 have k4 : (bJ.new b4 (.box (ax (.int .i64 (n : Nat))))).box b4 = some [.int .i64 (n : Nat)] := aL
 have Bq := jk.bZ k3
 have e2 := e1.new jk (x := .box (ax (.int .i64 (n : Nat))))
 have k3 := (bm jk (x := .box (ax (.int .i64 (n : Nat))))).bo k3
 generalize bJ.new b4 (.box (ax (.int .i64 (n : Nat)))) = bX at *
 rw [cx]
 intro b6 ou
 have k6 : (bX.new b6 (.box [.bool false])).box b6 = some [.bool false] := aL
 have n36 := ou.bZ k3
 have n46 := ou.bZ k4
 have f6 : U.live b6 = none := e2.fresh ou.1
 have e3 := e2.new ou (x := .box [.bool false])
 have k3 := (bm ou (x := .box [.bool false])).bo k3
 have k4 := (bm ou (x := .box [.bool false])).bo k4
 generalize bX.new b6 (.box [.bool false]) = cE at *
 simp only [aU, ai, ck]
 refine eG k3 rfl ?_
 refine eG k4 rfl ?_
 refine HT hv hx fun r => ?_
 rw [Au]
 refine ⟨by simp [cT], ?_⟩
 have CM : (cT x ++ r).take 6 = cT x := by simp [cT]
 rw [CM, cx]
 intro b7 re
 have k7 : (cE.new b7 (.box [AV.int .u8 0, AV.str [], AV.int .i64 0, AV.int .i64 0, AV.int .i64 0, AV.int .i64 0])).box b7 = some [AV.int .u8 0, AV.str [], AV.int .i64 0, AV.int .i64 0, AV.int .i64 0, AV.int .i64 0] := aL
 have n37 := re.bZ k3
 have n47 := re.bZ k4
 have n67 := re.bZ k6
 have f7 : U.live b7 = none := e3.fresh re.1
 have e4 := e3.new re (x := .box [AV.int .u8 0, AV.str [], AV.int .i64 0, AV.int .i64 0, AV.int .i64 0, AV.int .i64 0])
 have en := bm re (x := .box [AV.int .u8 0, AV.str [], AV.int .i64 0, AV.int .i64 0, AV.int .i64 0, AV.int .i64 0])
 have k3 := en.bo k3
 have k4 := en.bo k4
 have k6 := en.bo k6
 clear en
 generalize cE.new b7 (.box [AV.int .u8 0, AV.str [], AV.int .i64 0, AV.int .i64 0, AV.int .i64 0, AV.int .i64 0]) = cW at *
 rw [cA k7]
 refine ⟨⟨rfl, rfl, by simp [cT]⟩, ?_⟩
 have j7 : (cW.set b7 (.box (aA [AV.int .u8 0, AV.str [], AV.int .i64 0, AV.int .i64 0, AV.int .i64 0, AV.int .i64 0] 0 (ax (.agg (cT x)))))).box b7 = some (cT x) := by rw [aS]; rfl
 have k3 : (cW.set b7 (.box (aA [AV.int .u8 0, AV.str [], AV.int .i64 0, AV.int .i64 0, AV.int .i64 0, AV.int .i64 0] 0 (ax (.agg (cT x)))))).box b3 = some [v] := by rw [aN n37]; exact k3
 have k4 : (cW.set b7 (.box (aA [AV.int .u8 0, AV.str [], AV.int .i64 0, AV.int .i64 0, AV.int .i64 0, AV.int .i64 0] 0 (ax (.agg (cT x)))))).box b4 = some [.int .i64 (n : Nat)] := by rw [aN n47]; exact k4
 have k6 : (cW.set b7 (.box (aA [AV.int .u8 0, AV.str [], AV.int .i64 0, AV.int .i64 0, AV.int .i64 0, AV.int .i64 0] 0 (ax (.agg (cT x)))))).box b6 = some [.bool false] := by rw [aN n67]; exact k6
 have e5 := e4.set f7 (x := .box (aA [AV.int .u8 0, AV.str [], AV.int .i64 0, AV.int .i64 0, AV.int .i64 0, AV.int .i64 0] 0 (ax (.agg (cT x)))))
 generalize cW.set b7 (.box (aA [AV.int .u8 0, AV.str [], AV.int .i64 0, AV.int .i64 0, AV.int .i64 0, AV.int .i64 0] 0 (ax (.agg (cT x))))) = dV at *
 clear k7 jN jk ou re e1 e2 e3 e4
 refine eG j7 rfl ?_
 rw [look_ok, ai]
 have ret : ∀ (q : Bool) (ae : St), cJ U ae -> (∃ y, ae.box b6 = some [y]) -> gE l n x = q -> (aM (some (false, 1)) (.box b6 0) (.bool q) ae).wp K ae (fun _ U => bl (some (false, 1)) (.box b6 0) U fun r0 => aj R r0 U) (aa R) := by
  intro q ae e ⟨y, hy⟩ hq
  rw [cA hy]
  refine ⟨⟨rfl, rfl, by simp⟩, ?_⟩
  rw [ud aS rfl]
  subst hq
  exact aj.mk (h _ (e.set f6))
 cases hf : et x.kind with
 | none =>
   have hq : gE l n x = false := by unfold gE; rw [hf]
   simp only [bR, List.drop, bG, El]
   rw [cx]
   intro b8 nT
   have k8 : (dV.new b8 (.box [AV.bool false, AV.bool false, AV.bool false, AV.al])).box b8 = some [AV.bool false, AV.bool false, AV.bool false, AV.al] := aL
   have Vs := nT.bZ k6
   have e6 := e5.new nT (x := .box [AV.bool false, AV.bool false, AV.bool false, AV.al])
   have f8 : U.live b8 = none := e5.fresh nT.1
   have k6 := (bm nT (x := .box [AV.bool false, AV.bool false, AV.bool false, AV.al])).bo k6
   generalize dV.new b8 (.box [AV.bool false, AV.bool false, AV.bool false, AV.al]) = ot at *
   rw [cA k8]
   refine ⟨⟨rfl, rfl, by simp⟩, ?_⟩
   simp only [cU, ai, da, aI, show (true == false) = false from rfl, aB, a8, gw, az, if_true]
   exact cG (ret false _ (e6.set f8) ⟨.bool false, by rw [aN Vs]; exact k6⟩ hq)
 | some f =>
   simp only [bR, List.drop, bG]
   rw [cx]
   intro b8 nT
   have k8 : (dV.new b8 (.box [AV.bool false, AV.bool false, AV.bool false, AV.al])).box b8 = some [AV.bool false, AV.bool false, AV.bool false, AV.al] := aL
   have n38 := nT.bZ k3
   have n48 := nT.bZ k4
   have Vs := nT.bZ k6
   have n78 := nT.bZ j7
   have e6 := e5.new nT (x := .box [AV.bool false, AV.bool false, AV.bool false, AV.al])
   have f8 : U.live b8 = none := e5.fresh nT.1
   have en := bm nT (x := .box [AV.bool false, AV.bool false, AV.bool false, AV.al])
   have k3 := en.bo k3
   have k4 := en.bo k4
   have k6 := en.bo k6
   have j7 := en.bo j7
   clear en
   generalize dV.new b8 (.box [AV.bool false, AV.bool false, AV.bool false, AV.al]) = ot at *
   have CQ : (kZ f).length = 4 := rfl
   rw [cA k8]
   refine ⟨⟨rfl, rfl, by simp [CQ]⟩, ?_⟩
   have j8 : (ot.set b8 (.box (aA [AV.bool false, AV.bool false, AV.bool false, AV.al] 0 (ax (.agg (kZ f)))))).box b8 = some (kZ f) := by rw [aS]; rfl
   have k3 : (ot.set b8 (.box (aA [AV.bool false, AV.bool false, AV.bool false, AV.al] 0 (ax (.agg (kZ f)))))).box b3 = some [v] := by rw [aN n38]; exact k3
   have k4 : (ot.set b8 (.box (aA [AV.bool false, AV.bool false, AV.bool false, AV.al] 0 (ax (.agg (kZ f)))))).box b4 = some [.int .i64 (n : Nat)] := by rw [aN n48]; exact k4
   have k6 : (ot.set b8 (.box (aA [AV.bool false, AV.bool false, AV.bool false, AV.al] 0 (ax (.agg (kZ f)))))).box b6 = some [.bool false] := by rw [aN Vs]; exact k6
   have j7 : (ot.set b8 (.box (aA [AV.bool false, AV.bool false, AV.bool false, AV.al] 0 (ax (.agg (kZ f)))))).box b7 = some (cT x) := by rw [aN n78]; exact j7
   have e7 := e6.set f8 (x := .box (aA [AV.bool false, AV.bool false, AV.bool false, AV.al] 0 (ax (.agg (kZ f)))))
   generalize ot.set b8 (.box (aA [AV.bool false, AV.bool false, AV.bool false, AV.al] 0 (ax (.agg (kZ f))))) = nM at *
   clear k8 nT e5 e6
   have hQ : gE l n x = (decide (1 <= x.size /\ x.size <= (l.length : Int) - n) && (lG x f && ((fA l ((n : Int) + x.size) l.length (n + 1)).all (fun k => decide (1 <= eT l k /\ (k : Int) + eT l k <= n + x.size)) &&
    (decide (((behind l (n + 1) (fA l ((n : Int) + x.size) l.length (n + 1)) : Nat) : Int) = n + x.size) && dp (fS l (fA l ((n : Int) + x.size) l.length (n + 1))) f.kids)))) := by unfold gE; rw [hf]
   simp only [cU, ai, bV, aI, dw, aB, bp, aw]
   have hlen : bB (some false) v = .val (.int .i64 l.length) := hv.len
   refine kz (dP k3 rfl ?_)
   rw [hlen, aw]
   refine dP k4 rfl ?_
   rw [fx, er, gG, aw]
   refine ⟨aZ (by omega) (by omega), ?_⟩
   refine kz (dP j7 rfl (jc (mT _ _ _) ?_))
   simp only [cU, aw, az, bq, if_false, ai]
   have bad : gE l n x = false -> (aM (some (false, 1)) (.box b6 0) (.bool false) nM).wp K nM (fun _ U => bl (some (false, 1)) (.box b6 0) U fun r0 => aj R r0 U) (aa R) := fun hq => ret false _ e7 ⟨_, k6⟩ hq
   by_cases hw : 1 <= x.size /\ x.size <= (l.length : Int) - n
   rotate_left
   · simp only [hw, cm, da, aI, show (true == false) = false from rfl, aB, a8, gw, az, if_true, ai]
     exact cG (bad (by rw [hQ, decide_eq_false hw]; rfl))
   rw [decide_eq_true hw, Bool.true_and] at hQ
   simp only [hw, bS, bV, aI, dw, aB, bp]
   simp only [and_self, bS, bV, aI, dw, aB, bp]
   refine kz (dP j8 rfl (kz (dP j7 rfl ?_)))
   rw [jt, aw, uS, aw]
   have hwt : (!decide (x.text = w_)) = decide (x.text ≠ []) := by
    by_cases h : x.text = [] <;> simp [h, w_]
   rw [hwt]
   simp only [az, bq, if_false, ai]
   have ra : lG x f = ((f.text == decide (x.text ≠ [])) && ((!f.text || iC x.text) && (gS x.n && (gS x.m && ((f.n || decide (x.n = 0)) && (f.m || decide (x.m = 0))))))) := by
    unfold lG
    have e0 : (x.text != []) = decide (x.text ≠ []) := by by_cases h : x.text = [] <;> simp [h]
    have e1 : (x.n == 0) = decide (x.n = 0) := by by_cases h : x.n = 0 <;> simp [h]
    have e2 : (x.m == 0) = decide (x.m = 0) := by by_cases h : x.m = 0 <;> simp [h]
    rw [e0, e1, e2]; simp only [Bool.and_assoc]
   cases ht : (f.text != decide (x.text ≠ [])) with
   | true =>
     simp only [aI, show (true == false) = false from rfl, aB, a8, gw, az, if_true, ai]
     refine cG (bad ?_)
     have : (f.text == decide (x.text ≠ [])) = false := by revert ht; cases f.text <;> cases decide (x.text ≠ []) <;> simp
     rw [hQ, ra, this]; rfl
   | false =>
   have vo : (f.text == decide (x.text ≠ [])) = true := by revert ht; cases f.text <;> cases decide (x.text ≠ []) <;> simp
   rw [vo, Bool.true_and] at ra
   simp only [aI, dw, aB, bp]
   refine kz (dP j8 rfl ?_)
   simp only [aw]
   have nm : ∀ (A : Prop), ((!f.text || iC x.text) = true -> A) ->
    ad K (ar (.bool f.text) true) (ag (some 1) (.box b7 0)) (fun j6 =>
    ad K (ar (.bool f.text) true) (aq (some (false, 1)) j6 nM) (fun v53 =>
    ad K (ar (.bool f.text) true) (av.enter 208 [v53]) (fun lR =>
    ad K (ar (.bool f.text) true) (fo .not lR) (fun iX =>
    aC K (aR (.bool f.text) iX (.bool false)) (fun mQ =>
    ao (if false = true then AV.bool true else mQ) ((aM (some (false, 1)) (.box b6 0) (.bool false) nM).wp K nM (fun _ U => bl (some (false, 1)) (.box b6 0) U fun r0 => aj R r0 U) (aa R)) A))))) := by
    intro A hA
    cases UF : f.text with
    | false =>
      simp only [aI, show (false == true) = false from rfl, aB, a8, az, bq, if_false, aw, ai]
      exact du (hA (by rw [UF]; rfl))
    | true =>
      simp only [aI, dw, aB, bp]
      refine kz (dP j7 rfl (jc (Hy _ iy) ?_))
      simp only [cU, aw, az, if_true, bq, if_false, ai]
      cases AY : iC x.text with
      | true => exact du (hA (by rw [UF, AY]; rfl))
      | false => exact cG (bad (by rw [hQ, ra, UF, AY]; rfl))
   refine nm _ fun AY => ?_
   clear nm
   rw [AY, Bool.true_and] at ra
   simp only [aU, ai, ck]
   refine eG j7 rfl ((mT _ _ _).go ?_)
   have IM : ∀ a : Int, decide (0 <= a /\ a <= 1000000) = gS a := fun _ => rfl
   rw [IM]
   simp only [cU, ai]
   cases hN : gS x.n with
   | false =>
     simp only [da, aI, show (true == false) = false from rfl, aB, a8, gw, az, if_true, ai]
     exact cG (bad (by rw [hQ, ra, hN]; rfl))
   | true =>
   rw [hN, Bool.true_and] at ra
   simp only [bV, aI, dw, aB, bp, aw]
   refine dP j7 rfl (jc (mT _ _ _) ?_)
   rw [IM]
   simp only [cU, aw, az, bq, if_false, ai]
   cases hM : gS x.m with
   | false =>
     simp only [da, aI, show (true == false) = false from rfl, aB, a8, gw, az, if_true, ai]
     exact cG (bad (by rw [hQ, ra, hM]; rfl))
   | true =>
   rw [hM, Bool.true_and] at ra
   simp only [bV, aI, dw, aB, bp, aw]
   refine dP j8 rfl ?_
   simp only [cU, aw]
   have QT : ∀ (kq : AV -> Prop), ((f.n || decide (x.n = 0)) = true -> kq (.bool false)) -> ((f.n || decide (x.n = 0)) = false -> kq (.bool true)) ->
    ad K (ar (.bool !f.n) true) (.val (.box b7 2)) (fun wa => ad K (ar (.bool !f.n) true) (aq (some (false, 1)) wa nM) fun s9 => ad K (ar (.bool !f.n) true) (ak .neq (BT.mk false false false none false) true s9 (AV.int .i64 0)) fun v75 =>
     aC K (aR (.bool !f.n) v75 (.bool false)) kq) := by
    intro kq h1 h2
    cases hfn : f.n with
    | true =>
      simp only [bV, aI, show (false == true) = false from rfl, aB, a8, az, bq, if_false, aw]
      exact h1 (by rw [hfn]; rfl)
    | false =>
      simp only [da, aI, dw, aB, bp, aw]
      refine dP j7 rfl ?_
      rw [ct, aw]
      simp only [az, if_true, aw]
      by_cases h0 : x.n = 0
      · simp only [h0, bS, bV]; exact h1 (by simp [h0])
      · simp only [h0, cm, da]; exact h2 (by rw [hfn]; simp [h0])
   have QS : ∀ (kq : AV -> Prop), ((f.m || decide (x.m = 0)) = true -> kq (.bool false)) -> ((f.m || decide (x.m = 0)) = false -> kq (.bool true)) ->
    ad K (ar (.bool !f.m) true) (.val (.box b7 3)) (fun wa => ad K (ar (.bool !f.m) true) (aq (some (false, 1)) wa nM) fun s9 => ad K (ar (.bool !f.m) true) (ak .neq (BT.mk false false false none false) true s9 (AV.int .i64 0)) fun v75 =>
     aC K (aR (.bool !f.m) v75 (.bool false)) kq) := by
    intro kq h1 h2
    cases hfn : f.m with
    | true =>
      simp only [bV, aI, show (false == true) = false from rfl, aB, a8, az, bq, if_false, aw]
      exact h1 (by rw [hfn]; rfl)
    | false =>
      simp only [da, aI, dw, aB, bp, aw]
      refine dP j7 rfl ?_
      rw [ct, aw]
      simp only [az, if_true, aw]
      by_cases h0 : x.m = 0
      · simp only [h0, bS, bV]; exact h1 (by simp [h0])
      · simp only [h0, cm, da]; exact h2 (by rw [hfn]; simp [h0])
   refine QT _ (fun hn => ?_) fun hn => ?_
   rotate_left
   · simp only [bq, if_false, aI, show (true == false) = false from rfl, aB, a8, gw, az, if_true, ai]
     exact cG (bad (by rw [hQ, ra, hn]; rfl))
   rw [hn, Bool.true_and] at ra
   simp only [bq, if_false, aI, dw, aB, bp, aw]
   refine dP j8 rfl ?_
   simp only [cU, aw]
   refine QS _ (fun hm => ?_) fun hm => ?_
   rotate_left
   · simp only [bq, if_false, az, if_true, ai]
     exact cG (bad (by rw [hQ, ra, hm]; rfl))
   rw [hm] at ra
   rw [ra, Bool.true_and] at hQ
   simp only [bq, if_false, az, ai]
   refine du ?_
   clear QT QS ra bad
   rw [cx]
   intro pA NK
   have H7 : jJ nM [(b3, [v]), (b4, [.int .i64 (n : Nat)]), (b6, [.bool false]), (b7, cT x), (b8, kZ f)] :=
    (((((show jJ nM [] from fun p hp => by cases hp).cons j8).cons j7).cons k6).cons k4).cons k3
   have Bg : (nM.new pA (.box [.al])).box pA = some [.al] := aL
   have UT := H7.fresh NK
   have H8 := H7.o9 (bm NK (x := .box [.al]))
   generalize nM.new pA (.box [.al]) = BF at *
   clear NK H7
   refine eG (H8 (b4, [.int .i64 (n : Nat)]) (by simp)) rfl ?_
   rw [cq]
   refine ⟨aZ (by omega) (by omega), ?_⟩
   rw [cx]
   intro fL oC
   have P8 : (BF.new fL (.box [.int .i64 0])).box fL = some [.int .i64 0] := aL
   have UU := (H8.cons Bg).fresh oC
   have H9 := H8.o9 (bm oC (x := .box [.int .i64 0]))
   have Bg := (bm oC (x := .box [.int .i64 0])).bo Bg
   generalize BF.new fL (.box [.int .i64 0]) = pI at *
   clear oC H8
   rw [cA P8]
   refine ⟨⟨rfl, rfl, by simp⟩, ?_⟩
   have PT : ∀ p ∈ [(b3, [v]), (b4, [.int .i64 (n : Nat)]), (b6, [.bool false]), (b7, cT x), (b8, kZ f)], p.1 ≠ fL := fun p hp => UU p (List.mem_cons_of_mem _ hp)
   have Hp : pA ≠ fL := UU (pA, _) (List.mem_cons_self ..)
   have Sr := H9.set PT (y := .box (aA [AV.int .i64 0] 0 (ax (.int .i64 ((n : Int) + 1)))))
   have Bg : (pI.set fL (.box (aA [AV.int .i64 0] 0 (ax (.int .i64 ((n : Int) + 1)))))).box pA = some [.al] := by rw [aN Hp]; exact Bg
   have P8 : (pI.set fL (.box (aA [AV.int .i64 0] 0 (ax (.int .i64 ((n : Int) + 1)))))).box fL = some [.int .i64 ((n : Int) + 1)] := by rw [aS]; rfl
   generalize pI.set fL (.box (aA [AV.int .i64 0] 0 (ax (.int .i64 ((n : Int) + 1))))) = uw at *
   clear H9
   rw [rL (Sr (b3, [v]) (by simp))]
   refine ⟨by simp, ?_⟩
   refine eG (Sr (b4, [.int .i64 (n : Nat)]) (by simp)) rfl ?_
   refine xM (n := n) (x := x) hv hx (aZ (by omega) (by omega)) fun bn be bt abb d1 d2 d3 f1 f2 f3 q1 q2 q3 u1 => ?_
   simp only [bu]
   have H11 := (((Sr.o9 u1).cons q3).cons q2).cons q1
   have Bg := u1.bo Bg
   have aaA := u1.bo P8
   have Vx : ∀ b y, uw.box b = some y -> b ≠ bn /\ b ≠ be /\ b ≠ bt := fun b y hb =>
    ⟨fun e => cK hb (e ▸ f1), fun e => cK hb (e ▸ f2), fun e => cK hb (e ▸ f3)⟩
   have XX : ∀ p ∈ [(bn, [AV.int .i64 (n : Nat)]), (be, [.int .i64 ((n : Int) + x.size)]), (bt, [v]), (b3, [v]), (b4, [.int .i64 (n : Nat)]), (b6, [.bool false]), (b7, cT x), (b8, kZ f)], p.1 ≠ pA := by
    intro p hp
    have g := Vx pA _ (by assumption)
    simp only [ep] at hp
    rcases hp with rfl | rfl | rfl | hp
    · exact g.1.symm
    · exact g.2.1.symm
    · exact g.2.2.symm
    · exact UT p (by simpa using hp)
   have XY : ∀ p ∈ [(bn, [AV.int .i64 (n : Nat)]), (be, [.int .i64 ((n : Int) + x.size)]), (bt, [v]), (b3, [v]), (b4, [.int .i64 (n : Nat)]), (b6, [.bool false]), (b7, cT x), (b8, kZ f)], p.1 ≠ fL := by
    intro p hp
    have g := Vx fL _ P8
    simp only [ep] at hp
    rcases hp with rfl | rfl | rfl | hp
    · exact g.1.symm
    · exact g.2.1.symm
    · exact g.2.2.symm
    · exact PT p (by simpa using hp)
   generalize IE : [(bn, [AV.int .i64 (n : Nat)]), (be, [.int .i64 ((n : Int) + x.size)]), (bt, [v]), (b3, [v]), (b4, [.int .i64 (n : Nat)]), (b6, [.bool false]), (b7, cT x), (b8, kZ f)] = bs at *
   have mem : ∀ {ae : St}, jJ ae bs -> ae.box bn = some [.int .i64 (n : Nat)] /\ ae.box be = some [.int .i64 ((n : Int) + x.size)] /\ ae.box bt = some [v] /\ ae.box b3 = some [v] /\ ae.box b4 = some [.int .i64 (n : Nat)] /\ ae.box b6 = some [.bool false] /\ ae.box b7 = some (cT x) /\ ae.box b8 = some (kZ f) := by
    intro ae hH
    subst IE
    exact ⟨hH (bn, [.int .i64 (n : Nat)]) (by simp), hH (be, [.int .i64 ((n : Int) + x.size)]) (by simp), hH (bt, [v]) (by simp), hH (b3, [v]) (by simp), hH (b4, [.int .i64 (n : Nat)]) (by simp), hH (b6, [.bool false]) (by simp), hH (b7, cT x) (by simp), hH (b8, kZ f) (by simp)⟩
   have UO : ∀ {ae : St} {o : Nat} {L : eY}, jJ ae bs -> ae.loop o = some L -> ∀ p ∈ bs, p.1 ≠ o := fun hH ho p hp => bO (hH p hp) ho
   refine ue (fun ks ae => jJ ae bs /\ (∃ vk, ae.box pA = some [vk] /\ fj U ae vk 5 1 ks.length (eC (fS l ks))) /\ ae.box fL = some [.int .i64 ((behind l (n + 1) ks : Nat) : Int)] /\ ks.all (fun k => decide (1 <= eT l k /\ (k : Int) + eT l k <= n + x.size)) = true) (fun ae => ae.box b6 = some [.bool false] /\ gE l n x = false) hv Y9 (by omega) (by omega)
    (fun ks ae hI => ⟨(mem hI.1).1, (mem hI.1).2.1, (mem hI.1).2.2.1⟩) (fun ks ae o L L' hI ho => ?_) (fun ks ae o L hI ho => ?_) (fun ae o L L' hJ ho => ?_) (fun ks eO y ae o L1 q hI hy aJ oD Y8 sG qx hL UY U6 => ?_) (fun ks ae o L gL hI hL => ?_) (fun ae o L hJ hL => ?_) ⟨H11, ⟨_, Bg, by simpa [fS, eC] using fj.nil (ln _)⟩, by simpa [behind] using aaA, rfl⟩
   · obtain ⟨hH, ⟨vk, pE, w8⟩, uB, bw⟩ := hI
     exact ⟨hH.set (UO hH ho), ⟨vk, by rw [aN (bO pE ho)]; exact pE, w8.loop ho (ln _)⟩, by rw [aN (bO uB ho)]; exact uB, bw⟩
   · obtain ⟨hH, ⟨vk, pE, w8⟩, uB, bw⟩ := hI
     have e := bm ho (x := .loop L)
     exact ⟨hH.o9 e, ⟨vk, e.bo pE, w8.mono e⟩, e.bo uB, bw⟩
   · exact ⟨by rw [aN (bO hJ.1 ho)]; exact hJ.1, hJ.2⟩
   · obtain ⟨hH, ⟨vk, pE, w8⟩, uB, bw⟩ := hI
     obtain ⟨mn, me, mt, m3, m4, m6, m7, m8⟩ := mem hH
     refine dP pE rfl ?_
     refine dP m3 rfl ?_
     refine Ae hv hy fun r => ?_
     simp only [dr, aw, dX, oa, cT, jV, fB]
     refine Yb rfl rfl ?_
     refine Ef w8 (m := 1) (l2 := [.int .u8 y.kind]) rfl rfl (by omega) (by omega) fun bX v' g2 k2 => ?_
     have pN : ∀ b z, ae.box b = some z -> bX.live b = ae.live b /\ bX.box b = some z := fun b z hb => by
      cases vb : ae.live b with
      | none => exact absurd vb (cK hb)
      | some w =>
        have := k2 b w (fun n' l' yP => by
         rcases w8.g with ⟨_, _, h3⟩ | ⟨τ, r1, r2, _⟩
         · rw [h3] at yP; cases yP
         · rw [r1] at yP; cases yP; exact fJ hb r2 rfl) vb
        exact ⟨this, by rw [gC (this.trans vb.symm)]; exact hb⟩
     refine ⟨fun b hb => ?_, ?_⟩
     · simp only [dM, jU, jA, fC, ep, List.not_mem_nil, or_false] at hb
       rcases hb with rfl | rfl
       · exact (pN _ _ m3).1
       · exact (pN _ _ pE).1
     have YH : jJ bX bs := fun p hp => (pN _ _ (hH p hp)).2
     have GR := (pN _ _ uB).2
     have zX := (pN _ _ pE).2
     have pD : v'.cS = true /\ ax v' = [v'] := by
      rcases g2.g with ⟨h0, _, _⟩ | ⟨τ, r1, _, _⟩
      · omega
      · rw [r1]; exact ⟨rfl, rfl⟩
     rw [cA zX]
     refine ⟨⟨pD.1, by rw [pD.2]; rfl, by simp⟩, ?_⟩
     have YI := YH.set XX (y := .box (aA [vk] 0 (ax v')))
     have NH : (bX.set pA (.box (aA [vk] 0 (ax v')))).box fL = some [.int .i64 ((behind l (n + 1) ks : Nat) : Int)] := by rw [aN Hp.symm]; exact GR
     have Z0 : (bX.set pA (.box (aA [vk] 0 (ax v')))).box pA = some [v'] := by rw [aS, pD.2]; rfl
     have g3 : fj U (bX.set pA (.box (aA [vk] 0 (ax v')))) v' 5 1 (ks.length + 1) (eC (fS l ks) ++ [.int .u8 y.kind]) := by
      refine ⟨?_, g2.z, g2.t, ln _⟩
      rcases g2.g with g | ⟨τ, r1, r2, r3⟩
      · exact .inl g
      · exact .inr ⟨τ, r1, by rw [jo (fJ zX r2).symm]; exact r2, r3⟩
     have wW : (bX.set pA (.box (aA [vk] 0 (ax v')))).loop o = some L1 := by
      obtain ⟨_, kl⟩ := AO w8.g k2
      rw [eR]; exact kl hL
      rw [ez, if_neg (bO zX (kl hL)).symm]
     generalize bX.set pA (.box (aA [vk] 0 (ax v'))) = cE at *
     clear g2 k2 pN YH GR zX hH pE w8 uB mn me mt m3 m4 m6 m7 m8
     obtain ⟨mn, me, mt, m3, m4, m6, m7, m8⟩ := mem YI
     refine dP m4 rfl ?_
     refine dP m7 rfl ?_
     rw [zd]
     refine ⟨aZ (by omega) (by omega), ?_⟩
     have abp := (dm.1 hy).1
     rw [fx, er, gG, aw]
     refine ⟨aZ (by omega) (by omega), ?_⟩
     refine dP m3 rfl ?_
     refine Ae hv hy fun r => ?_
     simp only [dr, aw, cT, jV, List.drop, oa, fB]
     refine jc (mT _ _ _) ?_
     simp only [cU, aw]
     have FJ : eT l eO = y.size.toNat := by unfold eT; rw [hy]; rfl
     by_cases Zm : 1 <= y.size /\ y.size <= (n : Int) + x.size - eO
     · simp only [Zm, and_self, bS, bV]
       refine du ?_
       refine eG m3 rfl ?_
       refine HT hv hy fun r => ?_
       simp only [dr, ai, cT, jV, List.drop, mR, bG, cq]
       refine ⟨aZ (by omega) (by omega), ?_⟩
       rw [cA NH]
       refine ⟨⟨rfl, rfl, by simp⟩, ?_⟩
       refine UY _ ⟨YI.set XY, ⟨v', by rw [aN Hp]; exact Z0, ?_⟩, ?_, ?_⟩ (by omega) ?_
       · have : fj U (cE.set fL (.box (aA [.int .i64 ((behind l (n + 1) ks : Nat) : Int)] 0 (ax (.int .i64 ((eO : Int) + y.size)))))) v' 5 1 (ks.length + 1) (eC (fS l ks) ++ [.int .u8 y.kind]) := by
          refine ⟨?_, g3.z, g3.t, ln _⟩
          rcases g3.g with g | ⟨τ, r1, r2, r3⟩
          · exact .inl g
          · exact .inr ⟨τ, r1, by rw [jo (fJ NH r2).symm]; exact r2, r3⟩
         rw [Dl hy]
         simpa [eC] using this
       · rw [aS, wQ, FJ]
         have : ((eO + y.size.toNat : Nat) : Int) = (eO : Int) + y.size := by omega
         rw [this]; rfl
       · rw [List.all_append, bw]
         simp only [List.all_cons, List.all_nil, Bool.and_true, Bool.true_and, cP, FJ]
         omega
       · rw [eR]; exact wW
         rw [ez, if_neg (bO NH wW).symm]
     · simp only [Zm, cm, da]
       refine cG ?_
       rw [cA m6]
       refine ⟨⟨rfl, rfl, by simp⟩, ?_⟩
       refine U6 _ ⟨by rw [aS]; rfl, ?_⟩ ?_
       · obtain ⟨r', qy⟩ := qx
         rw [hQ, qy, List.all_append, List.all_cons]
         have : decide (1 <= eT l eO /\ (eO : Int) + eT l eO <= n + x.size) = false := by
          rw [decide_eq_false_iff_not, FJ]; omega
         rw [this]; simp
       · rw [eR]; exact wW
         rw [ez, if_neg (bO m6 wW).symm]
   · obtain ⟨hH, ⟨vk, pE, w8⟩, uB, bw⟩ := hI
     have hH' := hH.del (UO hH hL)
     have GR : (ae.del o).box fL = some [.int .i64 ((behind l (n + 1) ks : Nat) : Int)] := by rw [fI (bO uB hL)]; exact uB
     have zX : (ae.del o).box pA = some [vk] := by rw [fI (bO pE hL)]; exact pE
     obtain ⟨mn, me, mt, m3, m4, m6, m7, m8⟩ := mem hH'
     have abj : ks.length <= l.length := by rw [gL]; exact tL _ _ _ _
     have vb : behind l (n + 1) ks <= n + x.size.toNat + n + 1 := by
      clear hQ
      rcases List.eq_nil_or_concat ks with h0 | ⟨ks', k, h0⟩
      · rw [h0]; simp [behind]
        try omega
      · rw [h0, List.concat_eq_append, wQ]
        rw [h0, List.concat_eq_append, List.all_append, bN] at bw
        have := bw.2
        simp only [List.all_cons, List.all_nil, Bool.and_true, cP] at this
        omega
     refine eG GR rfl ?_
     refine eG m4 rfl ?_
     refine eG m7 rfl ?_
     rw [cq]
     refine ⟨aZ (by omega) (by omega), ?_⟩
     refine ef ?_
     rw [<- gL] at hQ
     rw [bw, Bool.true_and] at hQ
     by_cases sE : ((behind l (n + 1) ks : Nat) : Int) = n + x.size
     · rw [decide_eq_true sE, Bool.true_and] at hQ
       simp only [sE, bS, aI, dw, aB, bp, aU, aw, ck]
       refine dP zX rfl ?_
       refine dP m8 rfl ?_
       refine cG ?_
       have pD : eB vk (fS l ks).length (eC (fS l ks)) := by
        have : (fS l ks).length = ks.length := by simp [fS]
        rw [this]; exact w8.sl
       have kK := CG hf
       refine Uf pD (by simp [fS]; omega) kK.1 kK.2 fun pI e9 => ?_
       simp only [bu, az, if_true, ai]
       exact ret _ pI (ln _) ⟨_, e9.bo m6⟩ hQ
     · rw [decide_eq_false sE, Bool.false_and] at hQ
       simp only [sE, cm, aI, show (false == true) = false from rfl, aB, a8, az, bq, if_false, ai]
       refine du ?_
       exact ret false _ (ln _) ⟨_, m6⟩ hQ
   · have h6 : (ae.del o).box b6 = some [.bool false] := by rw [fI (bO hJ.1 hL)]; exact hJ.1
     rw [ud h6 rfl]
     refine aj.mk ?_
     have := h (ae.del o) (ln _)
     rw [hJ.2] at this; exact this
end Go.Rip
namespace Go.Rip
open Go.Proofs Go.RowKit
theorem XC (ae : St) : cJ (bD ⟨.e, 0⟩) ae := fun b x h => by cases h
theorem JF {v : AV} {l : List Nd} {n : Nat} {x : Nd} (hv : eB v l.length (cw l)) (hc : closed v = true) (hx : l[n]? = some x) (hl : l.length <= 10000) (iy : x.text.length <= 3000) : Pure K 131 [.agg [v], .int .i64 (n : Nat), mI] (.bool (gE l n x)) :=
 Pure.of (by simp [bU, closed, hc, show closed mI = true by kernel_rfl]) rfl (fun U => rfl) fun R hR => RO hv hx hl iy XC fun ae _ => hR ae
def iI (l : List Nd) : Bool := match l[0]? with | none => false | some x0 => decide (x0.kind = 1) && (decide (x0.size = ((l.length : Nat) : Int)) && (List.range l.length).all fun n => match l[n]? with | some x => gE l n x | none => true)
theorem pU {l : List Nd} {x0 : Nd} (h0 : l[0]? = some x0) : iI l = true ↔ (x0.kind = 1 /\ x0.size = l.length /\ ∀ n x, l[n]? = some x -> gE l n x = true) := by
 unfold iI
 rw [h0]
 simp only [bN, cP, dJ, List.mem_range]
 refine and_congr_right fun _ => and_congr_right fun _ => ⟨fun h n x hx => ?_, fun h n hn => ?_⟩
 · have := h n (dm.1 hx).1
   rw [hx] at this; exact this
 · obtain ⟨x, hx⟩ : ∃ x, l[n]? = some x := ⟨l[n], by simp [hn]⟩
   rw [hx]; exact h n x hx
theorem JY {l : List Nd} {n : Nat} {x : Nd} (hx : l[n]? = some x) (h : gE l n x = false) : iI l = false := by
 cases h0 : l[0]? with
 | none => unfold iI; rw [h0]
 | some x0 =>
   cases hr : iI l with
   | false => rfl
   | true => rw [((pU h0).1 hr).2.2 n x hx] at h; cases h
theorem HC {v : AV} {l : List Nd} (hv : eB v l.length (cw l)) (hc : closed v = true) (hl : l.length <= 10000) (iy : ∀ x ∈ l, x.text.length <= 3000) : Pure K 68 [.agg [v]] (.bool (iI l)) := by
 refine Pure.of (by simp [bU, closed, hc]) rfl (fun U => rfl) fun R hR => ?_
 refine OE ?_
 unfold Qw
 rw [eA rfl]
 intro b1 dC
 have m1 : ((bD ⟨.e, 0⟩).new b1 (.box (ax (.agg [v])))).box b1 = some [v] := aL
 generalize (bD _).new b1 _ = aF at *
 clear dC
 refine kz (kz (dP m1 rfl ?_))
 rw [hv.len, aw, aW, aw]
 cases h0 : l[0]? with
 | none =>
   have nU : l.length = 0 := by simpa using h0
   have hq : iI l = false := by unfold iI; rw [h0]
   simp only [nU, Int.natCast_zero, bS, aI, show (true == false) = false from rfl, aB, a8, az, if_true, gw, aw]
   exact cG (aj.mk (by rw [<- hq]; exact hR _))
 | some x0 =>
   have nU : 0 < l.length := (dm.1 h0).1
   have bQ : ¬ ((l.length : Int) = 0) := by omega
   have hQ : iI l = (decide (x0.kind = 1) && (decide (x0.size = ((l.length : Nat) : Int)) && (List.range l.length).all fun n => match l[n]? with | some x => gE l n x | none => true)) := by unfold iI; rw [h0]
   simp only [bQ, cm, aI, dw, aB, bp]
   refine kz (kz (dP m1 rfl ?_))
   refine Ae (i := 0) hv h0 fun r => ?_
   simp only [dr, aw, dX, oa, cT, jV, fB, ct, az, bq, if_false]
   by_cases hk : x0.kind = 1
   rotate_left
   · simp only [hk, cm, da, aI, show (true == false) = false from rfl, aB, a8, az, if_true, gw, aw]
     exact cG (aj.mk (by rw [show false = iI l by rw [hQ]; simp [hk]]; exact hR _))
   simp only [hk, bS, bV, aI, dw, aB, bp]
   refine kz (kz (dP m1 rfl ?_))
   refine Ae (i := 0) hv h0 fun r => ?_
   simp only [dr, aw, List.drop, oa, cT, jV, fB]
   refine kz (kz (dP m1 rfl ?_))
   rw [hv.len, aw, ct, aw]
   simp only [az, bq, if_false, aw]
   by_cases hs : x0.size = l.length
   rotate_left
   · simp only [hs, cm, da]
     exact cG (aj.mk (by rw [show false = iI l by rw [hQ]; simp [hk, hs]]; exact hR _))
   simp only [hs, bS, bV]
   refine du (yz.go ?_)
   simp only [aU, ai, ck]
   refine eG m1 rfl ?_
   rw [hv.len, ai]
   refine ⟨fun m v1 v3 eX v37 ae => ∃ i : Nat, m = l.length - i /\ i <= l.length /\ v1 = .box b1 0 /\ v3 = mI /\ eX = .int .i64 l.length /\ v37 = .int .i64 (i : Nat) /\ ae = aF /\ ∀ j x, j < i -> l[j]? = some x -> gE l j x = true, ⟨_, 0, rfl, by omega, rfl, rfl, rfl, rfl, rfl, fun j x h => by omega⟩, ?_⟩
   rintro m v1 v3 eX v37 ae ⟨i, rfl, hi, rfl, rfl, rfl, rfl, rfl, bw⟩
   simp only [bj, ai]
   refine dj (fun aJ => ?_) fun fZ => ?_
   · have aJ : i < l.length := by omega
     obtain ⟨x, hx⟩ : ∃ x, l[i]? = some x := ⟨l[i], by simp [aJ]⟩
     rw [rL m1]
     refine ⟨by simp, ?_⟩
     refine (JF hv hc hx hl (iy x (fi hx))).go ?_
     simp only [cU, ai]
     cases hq : gE l i x with
     | false => exact cG (aj.mk (by rw [<- JY hx hq]; exact hR _))
     | true =>
       refine du ?_
       rw [cq]
       refine ⟨aZ (by omega) (by omega), l.length - (i + 1), by omega, i + 1, rfl, by omega, rfl, rfl, rfl, by simp, rfl, fun j y hj hy => ?_⟩
       by_cases h : j = i
       · subst h; rw [hx] at hy; cases hy; exact hq
       · exact bw j y (by omega) hy
   · refine aj.mk ?_
     have : iI l = true := (pU h0).2 ⟨hk, hs, fun n x hx => bw n x (by have := (dm.1 hx).1; omega) hx⟩
     rw [<- this]; exact hR _
theorem yn {v : AV} {l : List Nd} (hv : eB v l.length (cw l)) (hc : closed v = true) (hl : l.length <= 10000) (iy : ∀ x ∈ l, x.text.length <= 3000) : Pure K 30 [.agg [v]] (.int .i64 (ey l)) := by
 refine Pure.of (by simp [bU, closed, hc]) rfl (fun U => rfl) fun R hR => ?_
 refine Ot ?_
 unfold Qk
 rw [eA rfl]
 intro b1 dC
 have m1 : ((bD ⟨.e, 0⟩).new b1 (.box (ax (.agg [v])))).box b1 = some [v] := aL
 generalize (bD _).new b1 _ = aF at *
 clear dC
 simp only [aU, ai, ck]
 refine eG m1 rfl ?_
 rw [hv.len, ai]
 simp only [dD, ai]
 refine dj (fun w9 => ?_) fun hle => ?_
 · refine aj.mk ?_
   have : ey l = 5 := by unfold ey; rw [if_pos (by omega)]
   rw [<- this]; exact hR _
 rw [rL m1]
 refine ⟨by simp, ?_⟩
 refine nP [v] rfl ?_
 refine (HC hv hc hl iy).go ?_
 simp only [cU, ai]
 have h9 : ¬ 900 < l.length := by omega
 cases hq : iI l with
 | false =>
   refine cG (aj.mk ?_)
   have : ey l = 4 := tn h9 fun h => by
    obtain ⟨t, rfl, h2, h3⟩ := h
    obtain ⟨x, r, e, _⟩ := t.nB
    have h0 : t.flat[0]? = some x := by rw [e]; rfl
    rw [(pU h0).2 ((By h0).2 ⟨t, rfl, h2, h3⟩)] at hq
    cases hq
   rw [<- this]; exact hR _
 | true =>
   refine du ?_
   rw [rL m1]
   refine ⟨by simp, ?_⟩
   cases h0 : l[0]? with
   | none => unfold iI at hq; rw [h0] at hq; cases hq
   | some x0 =>
     have hr := (pU h0).1 hq
     obtain ⟨t, rfl, h2, h3⟩ := (By h0).1 hr
     have bQ : t.flat ≠ [] := by intro e; rw [e] at h0; cases h0
     have dG := (xo bQ (by
      obtain ⟨y, r, e, _⟩ := t.nB
      rw [e] at h0 ⊢; simp at h0; subst h0; have := hr.2.1; rw [e] at this; exact this) hr.2.2)
     refine (GO hv hc (by omega) bQ (fun x hx => ?_) ?_).go ?_
     · obtain ⟨n, hn, rfl⟩ := List.getElem_of_mem hx
       have := dG.1.2.2 n t.flat[n] (by simp [hn])
       omega
     · have := dG.1.2.1; omega
     · rw [EF]
       have zS : ey t.flat = if 60 < t.deep \/ 24 < t.kids.length then 5 else 0 := by
        rw [AH t h9]; unfold qk; rw [if_neg (by simp [h2, h3])]
       rw [zS] at hR
       by_cases hg : 60 < t.deep \/ 24 < t.kids.length
       · rw [if_pos hg] at hR
         have : (decide (60 < t.deep) || decide (24 < t.kids.length)) = true := by simpa using hg
         rw [this]
         exact cG (aj.mk (hR _))
       · rw [if_neg hg] at hR
         have : (decide (60 < t.deep) || decide (24 < t.kids.length)) = false := by simpa using hg
         rw [this]
         exact du (aj.mk (hR _))
end Go.Rip
