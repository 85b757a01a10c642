/- Lemmas for the proof: no conditions. -/
import Derived.Test.YtnfpmiiopiinbaaGreatDoorRipZz
import Derived.Test.YtnfpmiiopiinbaaGreatDoorRipY
import Derived.Test.YtnfpmiiopiinbaaGreatDoorRipQ
set_option linter.unusedVariables false
set_option linter.unusedSimpArgs false
set_option linter.loopingSimpArgs false
namespace Go.Rip
open Go.Proofs Go.RowKit
def te : List Int := (List.range 37).map fun i => ((i : Nat) : Int) + 1
theorem Hl {k : Int} (h : k < 1 \/ 37 < k) : ∀ j ∈ te, j ≠ k := by
 intro j hj
 simp only [te, List.mem_map, List.mem_range] at hj
 obtain ⟨i, hi, rfl⟩ := hj
 omega
theorem Jc : ∃ vs, mW = .eR (te.map (.int .u8)) vs := ⟨_, by unfold mW te; rfl⟩
theorem look_ok (k : Int) (U : St) : fI (some (.i, 204)) (some (.agg [AV.bool false, AV.bool false, AV.bool false, AV.al])) mW (.int .u8 k) true U = .val (match eG k with | some f => .aR [.agg (lx f), .bool true] | none => .aR [E6, .bool false]) := by
 obtain ⟨vs, wg⟩ := Jc
 rw [wg]
 show kH .i (.int .u8 k) E6 true (te.map (.int .u8)) vs = _
 by_cases h : k < 1 \/ 37 < k
 · rw [mV h]
   exact B1 te vs (Hl h)
 · obtain ⟨n, rfl⟩ : ∃ n : Nat, k = n := ⟨k.toNat, by omega⟩
   have := H3 ⟨n, by omega⟩
   unfold Kk at this
   rw [wg] at this
   simp only at this
   split at this
   · rename_i v hv
     rw [hv, ta this]
     cases eG n <;> rfl
   · cases this
theorem eh.yz {U : St} {v : AV} {l : List Nd} (h : eh v l.length (bC l)) : gU U v l := by
 rcases h with ⟨h0, _, h1⟩ | ⟨c, h1⟩
 · exact .inl (.inl ⟨h1, oH.1 h0⟩)
 · exact .inl (.inr ⟨c, h1⟩)
theorem Dd {k : Int} {f : Bk} (h : eG k = some f) : f.kids.length <= 100 /\ ∀ s ∈ f.kids, s.least <= 1000 /\ s.mL <= 1000 := by
 have hk : 1 <= k /\ k <= 37 := by
  by_cases h1 : k < 1 \/ 37 < k
  · rw [mV h1] at h; cases h
  · omega
 obtain ⟨n, rfl⟩ : ∃ n : Nat, k = n := ⟨k.toNat, by omega⟩
 have all : ∀ n : Fin 38, (match eG ((n.val : Nat) : Int) with | some f => decide (f.kids.length <= 100) && f.kids.all fun s => decide (s.least <= 1000 /\ s.mL <= 1000) | none => true) = true := by decide +kernel
 have := all ⟨n, by omega⟩
 simp only [h, bR, c7, ef] at this
 exact this
def jV (U : St) (bs : List (Nat × List AV)) : Prop := ∀ p ∈ bs, U.box p.1 = some p.2
section
variable {U ae : St} {bs : List (Nat × List AV)} {b : Nat} {x : List AV}
theorem jV.pD (h : jV U bs) (e : cL U ae) : jV ae bs := fun p hp => e.bj (h p hp)
theorem jV.cons (h : jV U bs) (k : U.box b = some x) : jV U ((b, x) :: bs) := fun p hp => by
 rcases dS.1 hp with rfl | hp
 · exact k
 · exact h p hp
theorem jV.set (h : jV U bs) (hb : ∀ p ∈ bs, p.1 ≠ b) {y : Live} : jV (U.set b y) bs := fun p hp => by
 rw [aP (hb p hp)]; exact h p hp
theorem jV.del (h : jV U bs) (hb : ∀ p ∈ bs, p.1 ≠ b) : jV (U.del b) bs := fun p hp => by
 rw [jA (hb p hp)]; exact h p hp
theorem jV.fresh (h : jV U bs) (f : U.cY b) : ∀ p ∈ bs, p.1 ≠ b := fun p hp => f.cx (h p hp)
end
theorem YE {e : TypeId} {x : AV} {z : AV} {kq : AV -> Prop} (hx : x.cQ = true) (hc : ay x = [x]) (hk : kq (.vec 1 .full [x])) : aw K (aO (some (e, 1)) (some [z]) 1 false [(0, x)]) kq := by
 rw [uK]
 refine ⟨by omega, ?_⟩
 rw [pK (o := 0) (s := 1) rfl]
 refine ⟨⟨hx, by rw [hc]; rfl, by simp [bK]⟩, ?_⟩
 rw [xj, hc]
 exact ⟨rfl, hk⟩
theorem dZ.loop {aG U : St} {v : AV} {e : TypeId} {sz n : Nat} {l : List AV} {o : Nat} {L L' : fw} (h : dZ aG U v e sz n l) (ho : U.loop o = some L) (hx : cL aG (U.set o (.loop L'))) : dZ aG (U.set o (.loop L')) v e sz n l := by
 refine ⟨?_, h.z, h.t, hx⟩
 rcases h.g with g | ⟨τ, r1, r2, r3⟩
 · exact .inl g
 · refine .inr ⟨τ, r1, ?_, r3⟩
   rw [gz]; exact r2
   rintro rfl
   unfold St.tok at r2; unfold St.loop at ho
   split at ho
   · rename_i e; simp [e] at r2
   · cases ho
theorem D1 {l : List Nd} {ks : List Nat} {k : Nat} {x : Nd} (h : l[k]? = some x) : fY l (ks ++ [k]) = fY l ks ++ [x.kind] := by simp [fY, h]
theorem Sf {U : St} {R : cD -> St -> Prop} {v : AV} {l : List Nd} {n : Nat} {x : Nd} (hv : eh v l.length (bC l)) (hx : l[n]? = some x) (hl : l.length <= 10000) (iW : x.text.length <= 3000) (lE : ∀ ae, cL U ae)
 (h : ∀ ae, cL U ae -> R (.ret (.bool (gT l n x))) ae) : af K 131 [.agg [v], .int .i64 (n : Nat), mW] U R := by
 refine K2 ?_
 unfold KZ
 have zA := (dF.1 hx).1
 rw [ff rfl]
 intro b3 iD
 have k3 : (U.new b3 (.box (ay (.agg [v])))).box b3 = some [v] := aN
 have e1 := bE iD (x := .box (ay (.agg [v])))
 generalize U.new b3 (.box (ay (.agg [v]))) = bJ at *
 rw [ff rfl]
 intro b4 lR
 have k4 : (bJ.new b4 (.box (ay (.int .i64 (n : Nat))))).box b4 = some [.int .i64 (n : Nat)] := aN
 have Ea := lR.cx k3
 have e2 := e1.new lR (x := .box (ay (.int .i64 (n : Nat))))
 have k3 := (bE lR (x := .box (ay (.int .i64 (n : Nat))))).bj k3
 generalize bJ.new b4 (.box (ay (.int .i64 (n : Nat)))) = bP at *
 rw [cN]
 intro b6 nX
 have k6 : (bP.new b6 (.box [.bool false])).box b6 = some [.bool false] := aN
 have n36 := nX.cx k3
 have QI := nX.cx k4
 have f6 : U.live b6 = none := e2.fresh nX.1
 have e3 := e2.new nX (x := .box [.bool false])
 have k3 := (bE nX (x := .box [.bool false])).bj k3
 have k4 := (bE nX (x := .box [.bool false])).bj k4
 generalize bP.new b6 (.box [.bool false]) = cJ at *
 simp only [aV, ah, cr]
 refine eP k3 rfl ?_
 refine eP k4 rfl ?_
 refine EY hv hx fun r => ?_
 rw [xA]
 refine ⟨by simp [bO], ?_⟩
 have Dj : (bO x ++ r).take 6 = bO x := by simp [bO]
 rw [Dj, cN]
 intro b7 pG
 have k7 : (cJ.new b7 (.box [AV.int .u8 0, AV.str [], AV.int .i64 0, AV.int .i64 0, AV.int .i64 0, AV.int .i64 0])).box b7 = some [AV.int .u8 0, AV.str [], AV.int .i64 0, AV.int .i64 0, AV.int .i64 0, AV.int .i64 0] := aN
 have n37 := pG.cx k3
 have n47 := pG.cx k4
 have n67 := pG.cx k6
 have f7 : U.live b7 = none := e3.fresh pG.1
 have e4 := e3.new pG (x := .box [AV.int .u8 0, AV.str [], AV.int .i64 0, AV.int .i64 0, AV.int .i64 0, AV.int .i64 0])
 have en := bE pG (x := .box [AV.int .u8 0, AV.str [], AV.int .i64 0, AV.int .i64 0, AV.int .i64 0, AV.int .i64 0])
 have k3 := en.bj k3
 have k4 := en.bj k4
 have k6 := en.bj k6
 clear en
 generalize cJ.new b7 (.box [AV.int .u8 0, AV.str [], AV.int .i64 0, AV.int .i64 0, AV.int .i64 0, AV.int .i64 0]) = cu at *
 rw [cI k7]
 refine ⟨⟨rfl, rfl, by simp [bO]⟩, ?_⟩
 have j7 : (cu.set b7 (.box (aB [AV.int .u8 0, AV.str [], AV.int .i64 0, AV.int .i64 0, AV.int .i64 0, AV.int .i64 0] 0 (ay (.agg (bO x)))))).box b7 = some (bO x) := by rw [aT]; rfl
 have k3 : (cu.set b7 (.box (aB [AV.int .u8 0, AV.str [], AV.int .i64 0, AV.int .i64 0, AV.int .i64 0, AV.int .i64 0] 0 (ay (.agg (bO x)))))).box b3 = some [v] := by rw [aP n37]; exact k3
 have k4 : (cu.set b7 (.box (aB [AV.int .u8 0, AV.str [], AV.int .i64 0, AV.int .i64 0, AV.int .i64 0, AV.int .i64 0] 0 (ay (.agg (bO x)))))).box b4 = some [.int .i64 (n : Nat)] := by rw [aP n47]; exact k4
 have k6 : (cu.set b7 (.box (aB [AV.int .u8 0, AV.str [], AV.int .i64 0, AV.int .i64 0, AV.int .i64 0, AV.int .i64 0] 0 (ay (.agg (bO x)))))).box b6 = some [.bool false] := by rw [aP n67]; exact k6
 have e5 := e4.set f7 (x := .box (aB [AV.int .u8 0, AV.str [], AV.int .i64 0, AV.int .i64 0, AV.int .i64 0, AV.int .i64 0] 0 (ay (.agg (bO x)))))
 generalize cu.set b7 (.box (aB [AV.int .u8 0, AV.str [], AV.int .i64 0, AV.int .i64 0, AV.int .i64 0, AV.int .i64 0] 0 (ay (.agg (bO x))))) = dI at *
 clear k7 iD lR nX pG e1 e2 e3 e4
 refine eP j7 rfl ?_
 rw [look_ok, ah]
 have ret : ∀ (q : Bool) (ae : St), cL U ae -> (∃ y, ae.box b6 = some [y]) -> gT l n x = q -> (aL (some (false, 1)) (.box b6 0) (.bool q) ae).wp K ae (fun _ U => br (some (false, 1)) (.box b6 0) U fun r0 => ak R r0 U) (aa R) := by
  intro q ae e ⟨y, hy⟩ hq
  rw [cI hy]
  refine ⟨⟨rfl, rfl, by simp⟩, ?_⟩
  rw [Ep aT rfl]
  subst hq
  exact ak.mk (h _ (e.set f6))
 cases hf : eG x.kind with
 | none =>
   have hq : gT l n x = false := by unfold gT; rw [hf]
   simp only [cz, List.drop, bM, E6]
   rw [cN]
   intro b8 ou
   have k8 : (dI.new b8 (.box [AV.bool false, AV.bool false, AV.bool false, AV.al])).box b8 = some [AV.bool false, AV.bool false, AV.bool false, AV.al] := aN
   have VW := ou.cx k6
   have e6 := e5.new ou (x := .box [AV.bool false, AV.bool false, AV.bool false, AV.al])
   have f8 : U.live b8 = none := e5.fresh ou.1
   have k6 := (bE ou (x := .box [AV.bool false, AV.bool false, AV.bool false, AV.al])).bj k6
   generalize dI.new b8 (.box [AV.bool false, AV.bool false, AV.bool false, AV.al]) = oP at *
   rw [cI k8]
   refine ⟨⟨rfl, rfl, by simp⟩, ?_⟩
   simp only [c8, ah, dt, aI, show (true == false) = false from rfl, aC, a7, gA, aA, if_true]
   exact cR (ret false _ (e6.set f8) ⟨.bool false, by rw [aP VW]; exact k6⟩ hq)
 | some f =>
   simp only [cz, List.drop, bM]
   rw [cN]
   intro b8 ou
   have k8 : (dI.new b8 (.box [AV.bool false, AV.bool false, AV.bool false, AV.al])).box b8 = some [AV.bool false, AV.bool false, AV.bool false, AV.al] := aN
   have n38 := ou.cx k3
   have n48 := ou.cx k4
   have VW := ou.cx k6
   have n78 := ou.cx j7
   have e6 := e5.new ou (x := .box [AV.bool false, AV.bool false, AV.bool false, AV.al])
   have f8 : U.live b8 = none := e5.fresh ou.1
   have en := bE ou (x := .box [AV.bool false, AV.bool false, AV.bool false, AV.al])
   have k3 := en.bj k3
   have k4 := en.bj k4
   have k6 := en.bj k6
   have j7 := en.bj j7
   clear en
   generalize dI.new b8 (.box [AV.bool false, AV.bool false, AV.bool false, AV.al]) = oP at *
   have qO : (lx f).length = 4 := rfl
   rw [cI k8]
   refine ⟨⟨rfl, rfl, by simp [qO]⟩, ?_⟩
   have j8 : (oP.set b8 (.box (aB [AV.bool false, AV.bool false, AV.bool false, AV.al] 0 (ay (.agg (lx f)))))).box b8 = some (lx f) := by rw [aT]; rfl
   have k3 : (oP.set b8 (.box (aB [AV.bool false, AV.bool false, AV.bool false, AV.al] 0 (ay (.agg (lx f)))))).box b3 = some [v] := by rw [aP n38]; exact k3
   have k4 : (oP.set b8 (.box (aB [AV.bool false, AV.bool false, AV.bool false, AV.al] 0 (ay (.agg (lx f)))))).box b4 = some [.int .i64 (n : Nat)] := by rw [aP n48]; exact k4
   have k6 : (oP.set b8 (.box (aB [AV.bool false, AV.bool false, AV.bool false, AV.al] 0 (ay (.agg (lx f)))))).box b6 = some [.bool false] := by rw [aP VW]; exact k6
   have j7 : (oP.set b8 (.box (aB [AV.bool false, AV.bool false, AV.bool false, AV.al] 0 (ay (.agg (lx f)))))).box b7 = some (bO x) := by rw [aP n78]; exact j7
   have e7 := e6.set f8 (x := .box (aB [AV.bool false, AV.bool false, AV.bool false, AV.al] 0 (ay (.agg (lx f)))))
   generalize oP.set b8 (.box (aB [AV.bool false, AV.bool false, AV.bool false, AV.al] 0 (ay (.agg (lx f))))) = nq at *
   clear k8 ou e5 e6
   have hQ : gT l n x = (decide (1 <= x.size /\ x.size <= (l.length : Int) - n) && (lP x f && ((gh l ((n : Int) + x.size) l.length (n + 1)).all (fun k => decide (1 <= bY l k /\ (k : Int) + bY l k <= n + x.size)) &&
    (decide (((behind l (n + 1) (gh l ((n : Int) + x.size) l.length (n + 1)) : Nat) : Int) = n + x.size) && dy (fY l (gh l ((n : Int) + x.size) l.length (n + 1))) f.kids)))) := by unfold gT; rw [hf]
   simp only [c8, ah, ca, aI, dG, aC, bl, av]
   have hlen : bz (some false) v = .val (.int .i64 l.length) := hv.len
   refine gx (db k3 rfl ?_)
   rw [hlen, av]
   refine db k4 rfl ?_
   rw [dU, dC, fN, av]
   refine ⟨aS (by omega) (by omega), ?_⟩
   refine gx (db j7 rfl (iL (nk _ _ _) ?_))
   simp only [c8, av, aA, bo, if_false, ah]
   have bad : gT l n x = false -> (aL (some (false, 1)) (.box b6 0) (.bool false) nq).wp K nq (fun _ U => br (some (false, 1)) (.box b6 0) U fun r0 => ak R r0 U) (aa R) := fun hq => ret false _ e7 ⟨_, k6⟩ hq
   by_cases hw : 1 <= x.size /\ x.size <= (l.length : Int) - n
   rotate_left
   · simp only [hw, ct, dt, aI, show (true == false) = false from rfl, aC, a7, gA, aA, if_true, ah]
     exact cR (bad (by rw [hQ, decide_eq_false hw]; rfl))
   rw [decide_eq_true hw, Bool.true_and] at hQ
   simp only [hw, bT, ca, aI, dG, aC, bl]
   simp only [and_self, bT, ca, aI, dG, aC, bl]
   refine gx (db j8 rfl (gx (db j7 rfl ?_)))
   rw [jI, av, vE, av]
   have hwt : (!decide (x.text = w_)) = decide (x.text ≠ []) := by
    by_cases h : x.text = [] <;> simp [h, w_]
   rw [hwt]
   simp only [aA, bo, if_false, ah]
   have rG : lP x f = ((f.text == decide (x.text ≠ [])) && ((!f.text || iZ x.text) && (hZ x.n && (hZ x.m && ((f.n || decide (x.n = 0)) && (f.m || decide (x.m = 0))))))) := by
    unfold lP
    have e0 : (x.text != []) = decide (x.text ≠ []) := by by_cases h : x.text = [] <;> simp [h]
    have e1 : (x.n == 0) = decide (x.n = 0) := by by_cases h : x.n = 0 <;> simp [h]
    have e2 : (x.m == 0) = decide (x.m = 0) := by by_cases h : x.m = 0 <;> simp [h]
    rw [e0, e1, e2]; simp only [Bool.and_assoc]
   cases ht : (f.text != decide (x.text ≠ [])) with
   | true =>
     simp only [aI, show (true == false) = false from rfl, aC, a7, gA, aA, if_true, ah]
     refine cR (bad ?_)
     have : (f.text == decide (x.text ≠ [])) = false := by revert ht; cases f.text <;> cases decide (x.text ≠ []) <;> simp
     rw [hQ, rG, this]; rfl
   | false =>
   have tk : (f.text == decide (x.text ≠ [])) = true := by revert ht; cases f.text <;> cases decide (x.text ≠ []) <;> simp
   rw [tk, Bool.true_and] at rG
   simp only [aI, dG, aC, bl]
   refine gx (db j8 rfl ?_)
   simp only [av]
   have nm : ∀ (A : Prop), ((!f.text || iZ x.text) = true -> A) ->
    ad K (ar (.bool f.text) true) (ag (some 1) (.box b7 0)) (fun kx =>
    ad K (ar (.bool f.text) true) (ao (some (false, 1)) kx nq) (fun v53 =>
    ad K (ar (.bool f.text) true) (au.enter 208 [v53]) (fun kj =>
    ad K (ar (.bool f.text) true) (fF .not kj) (fun iI =>
    aw K (aQ (.bool f.text) iI (.bool false)) (fun l9 =>
    aq (if false = true then AV.bool true else l9) ((aL (some (false, 1)) (.box b6 0) (.bool false) nq).wp K nq (fun _ U => br (some (false, 1)) (.box b6 0) U fun r0 => ak R r0 U) (aa R)) A))))) := by
    intro A hA
    cases U8 : f.text with
    | false =>
      simp only [aI, show (false == true) = false from rfl, aC, a7, aA, bo, if_false, av, ah]
      exact dQ (hA (by rw [U8]; rfl))
    | true =>
      simp only [aI, dG, aC, bl]
      refine gx (db j7 rfl (iL (Ib _ iW) ?_))
      simp only [c8, av, aA, if_true, bo, if_false, ah]
      cases BE : iZ x.text with
      | true => exact dQ (hA (by rw [U8, BE]; rfl))
      | false => exact cR (bad (by rw [hQ, rG, U8, BE]; rfl))
   refine nm _ fun BE => ?_
   clear nm
   rw [BE, Bool.true_and] at rG
   simp only [aV, ah, cr]
   refine eP j7 rfl ((nk _ _ _).go ?_)
   have zw : ∀ a : Int, decide (0 <= a /\ a <= 1000000) = hZ a := fun _ => rfl
   rw [zw]
   simp only [c8, ah]
   cases hN : hZ x.n with
   | false =>
     simp only [dt, aI, show (true == false) = false from rfl, aC, a7, gA, aA, if_true, ah]
     exact cR (bad (by rw [hQ, rG, hN]; rfl))
   | true =>
   rw [hN, Bool.true_and] at rG
   simp only [ca, aI, dG, aC, bl, av]
   refine db j7 rfl (iL (nk _ _ _) ?_)
   rw [zw]
   simp only [c8, av, aA, bo, if_false, ah]
   cases hM : hZ x.m with
   | false =>
     simp only [dt, aI, show (true == false) = false from rfl, aC, a7, gA, aA, if_true, ah]
     exact cR (bad (by rw [hQ, rG, hM]; rfl))
   | true =>
   rw [hM, Bool.true_and] at rG
   simp only [ca, aI, dG, aC, bl, av]
   refine db j8 rfl ?_
   simp only [c8, av]
   have Rp : ∀ (kq : AV -> Prop), ((f.n || decide (x.n = 0)) = true -> kq (.bool false)) -> ((f.n || decide (x.n = 0)) = false -> kq (.bool true)) ->
    ad K (ar (.bool !f.n) true) (.val (.box b7 2)) (fun tM => ad K (ar (.bool !f.n) true) (ao (some (false, 1)) tM nq) fun rp => ad K (ar (.bool !f.n) true) (aj .neq (BT.mk false false false none false) true rp (AV.int .i64 0)) fun v75 =>
     aw K (aQ (.bool !f.n) v75 (.bool false)) kq) := by
    intro kq h1 h2
    cases hfn : f.n with
    | true =>
      simp only [ca, aI, show (false == true) = false from rfl, aC, a7, aA, bo, if_false, av]
      exact h1 (by rw [hfn]; rfl)
    | false =>
      simp only [dt, aI, dG, aC, bl, av]
      refine db j7 rfl ?_
      rw [cM, av]
      simp only [aA, if_true, av]
      by_cases h0 : x.n = 0
      · simp only [h0, bT, ca]; exact h1 (by simp [h0])
      · simp only [h0, ct, dt]; exact h2 (by rw [hfn]; simp [h0])
   have Rm : ∀ (kq : AV -> Prop), ((f.m || decide (x.m = 0)) = true -> kq (.bool false)) -> ((f.m || decide (x.m = 0)) = false -> kq (.bool true)) ->
    ad K (ar (.bool !f.m) true) (.val (.box b7 3)) (fun tM => ad K (ar (.bool !f.m) true) (ao (some (false, 1)) tM nq) fun rp => ad K (ar (.bool !f.m) true) (aj .neq (BT.mk false false false none false) true rp (AV.int .i64 0)) fun v75 =>
     aw K (aQ (.bool !f.m) v75 (.bool false)) kq) := by
    intro kq h1 h2
    cases hfn : f.m with
    | true =>
      simp only [ca, aI, show (false == true) = false from rfl, aC, a7, aA, bo, if_false, av]
      exact h1 (by rw [hfn]; rfl)
    | false =>
      simp only [dt, aI, dG, aC, bl, av]
      refine db j7 rfl ?_
      rw [cM, av]
      simp only [aA, if_true, av]
      by_cases h0 : x.m = 0
      · simp only [h0, bT, ca]; exact h1 (by simp [h0])
      · simp only [h0, ct, dt]; exact h2 (by rw [hfn]; simp [h0])
   refine Rp _ (fun hn => ?_) fun hn => ?_
   rotate_left
   · simp only [bo, if_false, aI, show (true == false) = false from rfl, aC, a7, gA, aA, if_true, ah]
     exact cR (bad (by rw [hQ, rG, hn]; rfl))
   rw [hn, Bool.true_and] at rG
   simp only [bo, if_false, aI, dG, aC, bl, av]
   refine db j8 rfl ?_
   simp only [c8, av]
   refine Rm _ (fun hm => ?_) fun hm => ?_
   rotate_left
   · simp only [bo, if_false, aA, if_true, ah]
     exact cR (bad (by rw [hQ, rG, hm]; rfl))
   rw [hm] at rG
   rw [rG, Bool.true_and] at hQ
   simp only [bo, if_false, aA, ah]
   refine dQ ?_
   clear Rp Rm rG bad
   rw [cN]
   intro pY Ov
   have H7 : jV nq [(b3, [v]), (b4, [.int .i64 (n : Nat)]), (b6, [.bool false]), (b7, bO x), (b8, lx f)] :=
    (((((show jV nq [] from fun p hp => by cases hp).cons j8).cons j7).cons k6).cons k4).cons k3
   have BU : (nq.new pY (.box [.al])).box pY = some [.al] := aN
   have Vo := H7.fresh Ov
   have H8 := H7.pD (bE Ov (x := .box [.al]))
   generalize nq.new pY (.box [.al]) = Cg at *
   clear Ov H7
   refine eP (H8 (b4, [.int .i64 (n : Nat)]) (by simp)) rfl ?_
   rw [cg]
   refine ⟨aS (by omega) (by omega), ?_⟩
   rw [cN]
   intro hY sA
   have QE : (Cg.new hY (.box [.int .i64 0])).box hY = some [.int .i64 0] := aN
   have Vp := (H8.cons BU).fresh sA
   have H9 := H8.pD (bE sA (x := .box [.int .i64 0]))
   have BU := (bE sA (x := .box [.int .i64 0])).bj BU
   generalize Cg.new hY (.box [.int .i64 0]) = pP at *
   clear sA H8
   rw [cI QE]
   refine ⟨⟨rfl, rfl, by simp⟩, ?_⟩
   have Qq : ∀ p ∈ [(b3, [v]), (b4, [.int .i64 (n : Nat)]), (b6, [.bool false]), (b7, bO x), (b8, lx f)], p.1 ≠ hY := fun p hp => Vp p (List.mem_cons_of_mem _ hp)
   have HX : pY ≠ hY := Vp (pY, _) (List.mem_cons_self ..)
   have SU := H9.set Qq (y := .box (aB [AV.int .i64 0] 0 (ay (.int .i64 ((n : Int) + 1)))))
   have BU : (pP.set hY (.box (aB [AV.int .i64 0] 0 (ay (.int .i64 ((n : Int) + 1)))))).box pY = some [.al] := by rw [aP HX]; exact BU
   have QE : (pP.set hY (.box (aB [AV.int .i64 0] 0 (ay (.int .i64 ((n : Int) + 1)))))).box hY = some [.int .i64 ((n : Int) + 1)] := by rw [aT]; rfl
   generalize pP.set hY (.box (aB [AV.int .i64 0] 0 (ay (.int .i64 ((n : Int) + 1))))) = u6 at *
   clear H9
   rw [qq (SU (b3, [v]) (by simp))]
   refine ⟨by simp, ?_⟩
   refine eP (SU (b4, [.int .i64 (n : Nat)]) (by simp)) rfl ?_
   refine D0 (n := n) (x := x) hv hx (aS (by omega) (by omega)) fun bn be bt abz d1 d2 d3 f1 f2 f3 q1 q2 q3 vO => ?_
   simp only [bA]
   have H11 := (((SU.pD vO).cons q3).cons q2).cons q1
   have BU := vO.bj BU
   have aaV := vO.bj QE
   have V6 : ∀ b y, u6.box b = some y -> b ≠ bn /\ b ≠ be /\ b ≠ bt := fun b y hb =>
    ⟨fun e => de hb (e ▸ f1), fun e => de hb (e ▸ f2), fun e => de hb (e ▸ f3)⟩
   have Yp : ∀ p ∈ [(bn, [AV.int .i64 (n : Nat)]), (be, [.int .i64 ((n : Int) + x.size)]), (bt, [v]), (b3, [v]), (b4, [.int .i64 (n : Nat)]), (b6, [.bool false]), (b7, bO x), (b8, lx f)], p.1 ≠ pY := by
    intro p hp
    have g := V6 pY _ (by assumption)
    simp only [dS] at hp
    rcases hp with rfl | rfl | rfl | hp
    · exact g.1.symm
    · exact g.2.1.symm
    · exact g.2.2.symm
    · exact Vo p (by simpa using hp)
   have Yq : ∀ p ∈ [(bn, [AV.int .i64 (n : Nat)]), (be, [.int .i64 ((n : Int) + x.size)]), (bt, [v]), (b3, [v]), (b4, [.int .i64 (n : Nat)]), (b6, [.bool false]), (b7, bO x), (b8, lx f)], p.1 ≠ hY := by
    intro p hp
    have g := V6 hY _ QE
    simp only [dS] at hp
    rcases hp with rfl | rfl | rfl | hp
    · exact g.1.symm
    · exact g.2.1.symm
    · exact g.2.2.symm
    · exact Qq p (by simpa using hp)
   generalize Jl : [(bn, [AV.int .i64 (n : Nat)]), (be, [.int .i64 ((n : Int) + x.size)]), (bt, [v]), (b3, [v]), (b4, [.int .i64 (n : Nat)]), (b6, [.bool false]), (b7, bO x), (b8, lx f)] = bs at *
   have mem : ∀ {ae : St}, jV ae bs -> ae.box bn = some [.int .i64 (n : Nat)] /\ ae.box be = some [.int .i64 ((n : Int) + x.size)] /\ ae.box bt = some [v] /\ ae.box b3 = some [v] /\ ae.box b4 = some [.int .i64 (n : Nat)] /\ ae.box b6 = some [.bool false] /\ ae.box b7 = some (bO x) /\ ae.box b8 = some (lx f) := by
    intro ae hH
    subst Jl
    exact ⟨hH (bn, [.int .i64 (n : Nat)]) (by simp), hH (be, [.int .i64 ((n : Int) + x.size)]) (by simp), hH (bt, [v]) (by simp), hH (b3, [v]) (by simp), hH (b4, [.int .i64 (n : Nat)]) (by simp), hH (b6, [.bool false]) (by simp), hH (b7, bO x) (by simp), hH (b8, lx f) (by simp)⟩
   have Vj : ∀ {ae : St} {o : Nat} {L : fw}, jV ae bs -> ae.loop o = some L -> ∀ p ∈ bs, p.1 ≠ o := fun hH ho p hp => cT (hH p hp) ho
   refine z6 (fun ks ae => jV ae bs /\ (∃ vk, ae.box pY = some [vk] /\ dZ U ae vk 5 1 ks.length (eL (fY l ks))) /\ ae.box hY = some [.int .i64 ((behind l (n + 1) ks : Nat) : Int)] /\ ks.all (fun k => decide (1 <= bY l k /\ (k : Int) + bY l k <= n + x.size)) = true) (fun ae => ae.box b6 = some [.bool false] /\ gT l n x = false) hv zA (by omega) (by omega)
    (fun ks ae hI => ⟨(mem hI.1).1, (mem hI.1).2.1, (mem hI.1).2.2.1⟩) (fun ks ae o L L' hI ho => ?_) (fun ks ae o L hI ho => ?_) (fun ae o L L' hJ ho => ?_) (fun ks fX y ae o L1 q hI hy aJ nA hnk vi uj hL hnx hrx => ?_) (fun ks ae o L iE hI hL => ?_) (fun ae o L hJ hL => ?_) ⟨H11, ⟨_, BU, by simpa [fY, eL] using dZ.nil (lE _)⟩, by simpa [behind] using aaV, rfl⟩
   · obtain ⟨hH, ⟨vk, p5, xO⟩, vd, bm⟩ := hI
     exact ⟨hH.set (Vj hH ho), ⟨vk, by rw [aP (cT p5 ho)]; exact p5, xO.loop ho (lE _)⟩, by rw [aP (cT vd ho)]; exact vd, bm⟩
   · obtain ⟨hH, ⟨vk, p5, xO⟩, vd, bm⟩ := hI
     have e := bE ho (x := .loop L)
     exact ⟨hH.pD e, ⟨vk, e.bj p5, xO.mono e⟩, e.bj vd, bm⟩
   · exact ⟨by rw [aP (cT hJ.1 ho)]; exact hJ.1, hJ.2⟩
   · obtain ⟨hH, ⟨vk, p5, xO⟩, vd, bm⟩ := hI
     obtain ⟨mn, me, mt, m3, m4, m6, m7, m8⟩ := mem hH
     refine db p5 rfl ?_
     refine db m3 rfl ?_
     refine yI hv hy fun r => ?_
     simp only [dA, av, ez, oF, bO, kf, fM]
     refine YE rfl rfl ?_
     refine wQ xO (m := 1) (l2 := [.int .u8 y.kind]) rfl rfl (by omega) (by omega) fun bP v' g2 k2 => ?_
     have nv : ∀ b z, ae.box b = some z -> bP.live b = ae.live b /\ bP.box b = some z := fun b z hb => by
      cases rH : ae.live b with
      | none => exact absurd rH (de hb)
      | some w =>
        have := k2 b w (fun n' l' lS => by
         rcases xO.g with ⟨_, _, h3⟩ | ⟨τ, r1, r2, _⟩
         · rw [h3] at lS; cases lS
         · rw [r1] at lS; cases lS; exact ej hb r2 rfl) rH
        exact ⟨this, by rw [gR (this.trans rH.symm)]; exact hb⟩
     refine ⟨fun b hb => ?_, ?_⟩
     · simp only [cB, iy, ik, eZ, dS, List.not_mem_nil, or_false] at hb
       rcases hb with rfl | rfl
       · exact (nv _ _ m3).1
       · exact (nv _ _ p5).1
     have Zb : jV bP bs := fun p hp => (nv _ _ (hH p hp)).2
     have Hr := (nv _ _ vd).2
     have AO := (nv _ _ p5).2
     have mX : v'.cQ = true /\ ay v' = [v'] := by
      rcases g2.g with ⟨h0, _, _⟩ | ⟨τ, r1, _, _⟩
      · omega
      · rw [r1]; exact ⟨rfl, rfl⟩
     rw [cI AO]
     refine ⟨⟨mX.1, by rw [mX.2]; rfl, by simp⟩, ?_⟩
     have Zc := Zb.set Yp (y := .box (aB [vk] 0 (ay v')))
     have Oq : (bP.set pY (.box (aB [vk] 0 (ay v')))).box hY = some [.int .i64 ((behind l (n + 1) ks : Nat) : Int)] := by rw [aP HX.symm]; exact Hr
     have aak : (bP.set pY (.box (aB [vk] 0 (ay v')))).box pY = some [v'] := by rw [aT, mX.2]; rfl
     have g3 : dZ U (bP.set pY (.box (aB [vk] 0 (ay v')))) v' 5 1 (ks.length + 1) (eL (fY l ks) ++ [.int .u8 y.kind]) := by
      refine ⟨?_, g2.z, g2.t, lE _⟩
      rcases g2.g with g | ⟨τ, r1, r2, r3⟩
      · exact .inl g
      · exact .inr ⟨τ, r1, by rw [gz (ej AO r2).symm]; exact r2, r3⟩
     have xK : (bP.set pY (.box (aB [vk] 0 (ay v')))).loop o = some L1 := by
      obtain ⟨_, kl⟩ := vU xO.g k2
      rw [gr]; exact kl hL
      rw [eS, if_neg (cT AO (kl hL)).symm]
     generalize bP.set pY (.box (aB [vk] 0 (ay v'))) = cJ at *
     clear g2 k2 nv Zb Hr AO hH p5 xO vd mn me mt m3 m4 m6 m7 m8
     obtain ⟨mn, me, mt, m3, m4, m6, m7, m8⟩ := mem Zc
     refine db m4 rfl ?_
     refine db m7 rfl ?_
     rw [sa]
     refine ⟨aS (by omega) (by omega), ?_⟩
     have abO := (dF.1 hy).1
     rw [dU, dC, fN, av]
     refine ⟨aS (by omega) (by omega), ?_⟩
     refine db m3 rfl ?_
     refine yI hv hy fun r => ?_
     simp only [dA, av, bO, kf, List.drop, oF, fM]
     refine iL (nk _ _ _) ?_
     simp only [c8, av]
     have DI : bY l fX = y.size.toNat := by unfold bY; rw [hy]; rfl
     by_cases VF : 1 <= y.size /\ y.size <= (n : Int) + x.size - fX
     · simp only [VF, and_self, bT, ca]
       refine dQ ?_
       refine eP m3 rfl ?_
       refine EY hv hy fun r => ?_
       simp only [dA, ah, bO, kf, List.drop, mg, bM, cg]
       refine ⟨aS (by omega) (by omega), ?_⟩
       rw [cI Oq]
       refine ⟨⟨rfl, rfl, by simp⟩, ?_⟩
       refine hnx _ ⟨Zc.set Yq, ⟨v', by rw [aP HX]; exact aak, ?_⟩, ?_, ?_⟩ (by omega) ?_
       · have : dZ U (cJ.set hY (.box (aB [.int .i64 ((behind l (n + 1) ks : Nat) : Int)] 0 (ay (.int .i64 ((fX : Int) + y.size)))))) v' 5 1 (ks.length + 1) (eL (fY l ks) ++ [.int .u8 y.kind]) := by
          refine ⟨?_, g3.z, g3.t, lE _⟩
          rcases g3.g with g | ⟨τ, r1, r2, r3⟩
          · exact .inl g
          · exact .inr ⟨τ, r1, by rw [gz (ej Oq r2).symm]; exact r2, r3⟩
         rw [D1 hy]
         simpa [eL] using this
       · rw [aT, xD, DI]
         have : ((fX + y.size.toNat : Nat) : Int) = (fX : Int) + y.size := by omega
         rw [this]; rfl
       · rw [List.all_append, bm]
         simp only [List.all_cons, List.all_nil, Bool.and_true, Bool.true_and, c7, DI]
         omega
       · rw [gr]; exact xK
         rw [eS, if_neg (cT Oq xK).symm]
     · simp only [VF, ct, dt]
       refine cR ?_
       rw [cI m6]
       refine ⟨⟨rfl, rfl, by simp⟩, ?_⟩
       refine hrx _ ⟨by rw [aT]; rfl, ?_⟩ ?_
       · obtain ⟨r', qU⟩ := uj
         rw [hQ, qU, List.all_append, List.all_cons]
         have : decide (1 <= bY l fX /\ (fX : Int) + bY l fX <= n + x.size) = false := by
          rw [decide_eq_false_iff_not, DI]; omega
         rw [this]; simp
       · rw [gr]; exact xK
         rw [eS, if_neg (cT m6 xK).symm]
   · obtain ⟨hH, ⟨vk, p5, xO⟩, vd, bm⟩ := hI
     have hH' := hH.del (Vj hH hL)
     have Hr : (ae.del o).box hY = some [.int .i64 ((behind l (n + 1) ks : Nat) : Int)] := by rw [jA (cT vd hL)]; exact vd
     have AO : (ae.del o).box pY = some [vk] := by rw [jA (cT p5 hL)]; exact p5
     obtain ⟨mn, me, mt, m3, m4, m6, m7, m8⟩ := mem hH'
     have abH : ks.length <= l.length := by rw [iE]; exact yy _ _ _ _
     have rH : behind l (n + 1) ks <= n + x.size.toNat + n + 1 := by
      clear hQ
      rcases List.eq_nil_or_concat ks with h0 | ⟨ks', k, h0⟩
      · rw [h0]; simp [behind]
        try omega
      · rw [h0, List.concat_eq_append, xD]
        rw [h0, List.concat_eq_append, List.all_append, bR] at bm
        have := bm.2
        simp only [List.all_cons, List.all_nil, Bool.and_true, c7] at this
        omega
     refine eP Hr rfl ?_
     refine eP m4 rfl ?_
     refine eP m7 rfl ?_
     rw [cg]
     refine ⟨aS (by omega) (by omega), ?_⟩
     refine eD ?_
     rw [<- iE] at hQ
     rw [bm, Bool.true_and] at hQ
     by_cases tg : ((behind l (n + 1) ks : Nat) : Int) = n + x.size
     · rw [decide_eq_true tg, Bool.true_and] at hQ
       simp only [tg, bT, aI, dG, aC, bl, aV, av, cr]
       refine db AO rfl ?_
       refine db m8 rfl ?_
       refine cR ?_
       have mX : eh vk (fY l ks).length (eL (fY l ks)) := by
        have : (fY l ks).length = ks.length := by simp [fY]
        rw [this]; exact xO.sl
       have kU := Dd hf
       refine UH mX (by simp [fY]; omega) kU.1 kU.2 fun pP e9 => ?_
       simp only [bA, aA, if_true, ah]
       exact ret _ pP (lE _) ⟨_, e9.bj m6⟩ hQ
     · rw [decide_eq_false tg, Bool.false_and] at hQ
       simp only [tg, ct, aI, show (false == true) = false from rfl, aC, a7, aA, bo, if_false, ah]
       refine dQ ?_
       exact ret false _ (lE _) ⟨_, m6⟩ hQ
   · have h6 : (ae.del o).box b6 = some [.bool false] := by rw [jA (cT hJ.1 hL)]; exact hJ.1
     rw [Ep h6 rfl]
     refine ak.mk ?_
     have := h (ae.del o) (lE _)
     rw [hJ.2] at this; exact this
end Go.Rip
namespace Go.Rip
open Go.Proofs Go.RowKit
theorem zh (ae : St) : cL (bD ⟨.e, 0⟩) ae := fun b x h => by cases h
theorem Kd {v : AV} {l : List Nd} {n : Nat} {x : Nd} (hv : eh v l.length (bC l)) (hc : closed v = true) (hx : l[n]? = some x) (hl : l.length <= 10000) (iW : x.text.length <= 3000) : Pure K 131 [.agg [v], .int .i64 (n : Nat), mW] (.bool (gT l n x)) :=
 Pure.of (by simp [bV, closed, hc, show closed mW = true by kernel_rfl]) rfl (fun U => rfl) fun R hR => Sf hv hx hl iW zh fun ae _ => hR ae
def jd (l : List Nd) : Bool := match l[0]? with | none => false | some x0 => decide (x0.kind = 1) && (decide (x0.size = ((l.length : Nat) : Int)) && (List.range l.length).all fun n => match l[n]? with | some x => gT l n x | none => true)
theorem qm {l : List Nd} {x0 : Nd} (h0 : l[0]? = some x0) : jd l = true ↔ (x0.kind = 1 /\ x0.size = l.length /\ ∀ n x, l[n]? = some x -> gT l n x = true) := by
 unfold jd
 rw [h0]
 simp only [bR, c7, ef, List.mem_range]
 refine and_congr_right fun _ => and_congr_right fun _ => ⟨fun h n x hx => ?_, fun h n hn => ?_⟩
 · have := h n (dF.1 hx).1
   rw [hx] at this; exact this
 · obtain ⟨x, hx⟩ : ∃ x, l[n]? = some x := ⟨l[n], by simp [hn]⟩
   rw [hx]; exact h n x hx
theorem KD {l : List Nd} {n : Nat} {x : Nd} (hx : l[n]? = some x) (h : gT l n x = false) : jd l = false := by
 cases h0 : l[0]? with
 | none => unfold jd; rw [h0]
 | some x0 =>
   cases hr : jd l with
   | false => rfl
   | true => rw [((qm h0).1 hr).2.2 n x hx] at h; cases h
theorem Ij {v : AV} {l : List Nd} (hv : eh v l.length (bC l)) (hc : closed v = true) (hl : l.length <= 10000) (iW : ∀ x ∈ l, x.text.length <= 3000) : Pure K 68 [.agg [v]] (.bool (jd l)) := by
 refine Pure.of (by simp [bV, closed, hc]) rfl (fun U => rfl) fun R hR => ?_
 refine Pk ?_
 unfold Q3
 rw [ff rfl]
 intro b1 eH
 have m1 : ((bD ⟨.e, 0⟩).new b1 (.box (ay (.agg [v])))).box b1 = some [v] := aN
 generalize (bD _).new b1 _ = aG at *
 clear eH
 refine gx (gx (db m1 rfl ?_))
 rw [hv.len, av, aX, av]
 cases h0 : l[0]? with
 | none =>
   have lD : l.length = 0 := by simpa using h0
   have hq : jd l = false := by unfold jd; rw [h0]
   simp only [lD, Int.natCast_zero, bT, aI, show (true == false) = false from rfl, aC, a7, aA, if_true, gA, av]
   exact cR (ak.mk (by rw [<- hq]; exact hR _))
 | some x0 =>
   have lD : 0 < l.length := (dF.1 h0).1
   have bW : ¬ ((l.length : Int) = 0) := by omega
   have hQ : jd l = (decide (x0.kind = 1) && (decide (x0.size = ((l.length : Nat) : Int)) && (List.range l.length).all fun n => match l[n]? with | some x => gT l n x | none => true)) := by unfold jd; rw [h0]
   simp only [bW, ct, aI, dG, aC, bl]
   refine gx (gx (db m1 rfl ?_))
   refine yI (i := 0) hv h0 fun r => ?_
   simp only [dA, av, ez, oF, bO, kf, fM, cM, aA, bo, if_false]
   by_cases hk : x0.kind = 1
   rotate_left
   · simp only [hk, ct, dt, aI, show (true == false) = false from rfl, aC, a7, aA, if_true, gA, av]
     exact cR (ak.mk (by rw [show false = jd l by rw [hQ]; simp [hk]]; exact hR _))
   simp only [hk, bT, ca, aI, dG, aC, bl]
   refine gx (gx (db m1 rfl ?_))
   refine yI (i := 0) hv h0 fun r => ?_
   simp only [dA, av, List.drop, oF, bO, kf, fM]
   refine gx (gx (db m1 rfl ?_))
   rw [hv.len, av, cM, av]
   simp only [aA, bo, if_false, av]
   by_cases hs : x0.size = l.length
   rotate_left
   · simp only [hs, ct, dt]
     exact cR (ak.mk (by rw [show false = jd l by rw [hQ]; simp [hk, hs]]; exact hR _))
   simp only [hs, bT, ca]
   refine dQ (zk.go ?_)
   simp only [aV, ah, cr]
   refine eP m1 rfl ?_
   rw [hv.len, ah]
   refine ⟨fun m v1 v3 fq v37 ae => ∃ i : Nat, m = l.length - i /\ i <= l.length /\ v1 = .box b1 0 /\ v3 = mW /\ fq = .int .i64 l.length /\ v37 = .int .i64 (i : Nat) /\ ae = aG /\ ∀ j x, j < i -> l[j]? = some x -> gT l j x = true, ⟨_, 0, rfl, by omega, rfl, rfl, rfl, rfl, rfl, fun j x h => by omega⟩, ?_⟩
   rintro m v1 v3 fq v37 ae ⟨i, rfl, hi, rfl, rfl, rfl, rfl, rfl, bm⟩
   simp only [bg, ah]
   refine dk (fun aJ => ?_) fun fJ => ?_
   · have aJ : i < l.length := by omega
     obtain ⟨x, hx⟩ : ∃ x, l[i]? = some x := ⟨l[i], by simp [aJ]⟩
     rw [qq m1]
     refine ⟨by simp, ?_⟩
     refine (Kd hv hc hx hl (iW x (fO hx))).go ?_
     simp only [c8, ah]
     cases hq : gT l i x with
     | false => exact cR (ak.mk (by rw [<- KD hx hq]; exact hR _))
     | true =>
       refine dQ ?_
       rw [cg]
       refine ⟨aS (by omega) (by omega), l.length - (i + 1), by omega, i + 1, rfl, by omega, rfl, rfl, rfl, by simp, rfl, fun j y hj hy => ?_⟩
       by_cases h : j = i
       · subst h; rw [hx] at hy; cases hy; exact hq
       · exact bm j y (by omega) hy
   · refine ak.mk ?_
     have : jd l = true := (qm h0).2 ⟨hk, hs, fun n x hx => bm n x (by have := (dF.1 hx).1; omega) hx⟩
     rw [<- this]; exact hR _
theorem za {v : AV} {l : List Nd} (hv : eh v l.length (bC l)) (hc : closed v = true) (hl : l.length <= 10000) (iW : ∀ x ∈ l, x.text.length <= 3000) : Pure K 30 [.agg [v]] (.int .i64 (fi l)) := by
 refine Pure.of (by simp [bV, closed, hc]) rfl (fun U => rfl) fun R hR => ?_
 refine O9 ?_
 unfold QT
 rw [ff rfl]
 intro b1 eH
 have m1 : ((bD ⟨.e, 0⟩).new b1 (.box (ay (.agg [v])))).box b1 = some [v] := aN
 generalize (bD _).new b1 _ = aG at *
 clear eH
 simp only [aV, ah, cr]
 refine eP m1 rfl ?_
 rw [hv.len, ah]
 simp only [dK, ah]
 refine dk (fun ti => ?_) fun hle => ?_
 · refine ak.mk ?_
   have : fi l = 5 := by unfold fi; rw [if_pos (by omega)]
   rw [<- this]; exact hR _
 rw [qq m1]
 refine ⟨by simp, ?_⟩
 refine oQ [v] rfl ?_
 refine (Ij hv hc hl iW).go ?_
 simp only [c8, ah]
 have h9 : ¬ 900 < l.length := by omega
 cases hq : jd l with
 | false =>
   refine cR (ak.mk ?_)
   have : fi l = 4 := zb h9 fun h => by
    obtain ⟨t, rfl, h2, h3⟩ := h
    obtain ⟨x, r, e, _⟩ := t.nU
    have h0 : t.flat[0]? = some x := by rw [e]; rfl
    rw [(qm h0).2 ((Ca h0).2 ⟨t, rfl, h2, h3⟩)] at hq
    cases hq
   rw [<- this]; exact hR _
 | true =>
   refine dQ ?_
   rw [qq m1]
   refine ⟨by simp, ?_⟩
   cases h0 : l[0]? with
   | none => unfold jd at hq; rw [h0] at hq; cases hq
   | some x0 =>
     have hr := (qm h0).1 hq
     obtain ⟨t, rfl, h2, h3⟩ := (Ca h0).1 hr
     have bW : t.flat ≠ [] := by intro e; rw [e] at h0; cases h0
     have dD := (x9 bW (by
      obtain ⟨y, r, e, _⟩ := t.nU
      rw [e] at h0 ⊢; simp at h0; subst h0; have := hr.2.1; rw [e] at this; exact this) hr.2.2)
     refine (Ho hv hc (by omega) bW (fun x hx => ?_) ?_).go ?_
     · obtain ⟨n, hn, rfl⟩ := List.getElem_of_mem hx
       have := dD.1.2.2 n t.flat[n] (by simp [hn])
       omega
     · have := dD.1.2.1; omega
     · rw [Ft]
       have AJ : fi t.flat = if 60 < t.deep \/ 24 < t.kids.length then 5 else 0 := by
        rw [Bs t h9]; unfold qH; rw [if_neg (by simp [h2, h3])]
       rw [AJ] at hR
       by_cases hg : 60 < t.deep \/ 24 < t.kids.length
       · rw [if_pos hg] at hR
         have : (decide (60 < t.deep) || decide (24 < t.kids.length)) = true := by simpa using hg
         rw [this]
         exact cR (ak.mk (hR _))
       · rw [if_neg hg] at hR
         have : (decide (60 < t.deep) || decide (24 < t.kids.length)) = false := by simpa using hg
         rw [this]
         exact dQ (ak.mk (hR _))
end Go.Rip
