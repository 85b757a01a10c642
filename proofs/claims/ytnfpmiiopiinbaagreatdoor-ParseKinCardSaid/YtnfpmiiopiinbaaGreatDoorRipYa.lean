/- Lemmas for the proof: no conditions. -/
import Derived.Test.YtnfpmiiopiinbaaGreatDoorRipZz
import Derived.Test.YtnfpmiiopiinbaaGreatDoorRipY
import Derived.Test.YtnfpmiiopiinbaaGreatDoorRipQ
set_option linter.unusedVariables false
set_option linter.unusedSimpArgs false
set_option linter.loopingSimpArgs false
namespace Go.Rip
open Go.Proofs Go.RowKit
def qv : List Int := (List.range 37).map fun i => ((i : Nat) : Int) + 1
theorem Ek {k : Int} (h : k < 1 \/ 37 < k) : ∀ j ∈ qv, j ≠ k := by
 intro j hj
 simp only [qv, List.mem_map, List.mem_range] at hj
 obtain ⟨i, hi, rfl⟩ := hj
 omega
theorem Gm : ∃ vs, kW = .dL (qv.map (.int .u8)) vs := ⟨_, by unfold kW qv; rfl⟩
theorem look_ok (k : Int) (U : St) : ez (some (.i, 204)) (some (.agg [AV.bool false, AV.bool false, AV.bool false, AV.aq])) kW (.int .u8 k) true U = .val (match gg k with | some f => .aL [.agg (jE f), .bool true] | none => .aL [Cj, .bool false]) := by
 obtain ⟨vs, tq⟩ := Gm
 rw [tq]
 show jf .i (.int .u8 k) Cj true (qv.map (.int .u8)) vs = _
 by_cases h : k < 1 \/ 37 < k
 · rw [pV h]
   exact zl qv vs (Ek h)
 · obtain ⟨n, rfl⟩ : ∃ n : Nat, k = n := ⟨k.toNat, by omega⟩
   have := Fc ⟨n, by omega⟩
   unfold Ht at this
   rw [tq] at this
   simp only at this
   split at this
   · rename_i v hv
     rw [hv, qq this]
     cases gg n <;> rfl
   · cases this
theorem eS.KL {U : St} {v : AV} {l : List Nd} (h : eS v l.length (cR l)) : lz U v l := by
 rcases h with ⟨h0, _, h1⟩ | ⟨c, h1⟩
 · exact .inl (.inl ⟨h1, tN.1 h0⟩)
 · exact .inl (.inr ⟨c, h1⟩)
theorem AF {k : Int} {f : C2} (h : gg k = some f) : f.kids.length <= 100 /\ ∀ s ∈ f.kids, s.least <= 1000 /\ s.mT <= 1000 := by
 have hk : 1 <= k /\ k <= 37 := by
  by_cases h1 : k < 1 \/ 37 < k
  · rw [pV h1] at h; cases h
  · omega
 obtain ⟨n, rfl⟩ : ∃ n : Nat, k = n := ⟨k.toNat, by omega⟩
 have all : ∀ n : Fin 38, (match gg ((n.val : Nat) : Int) with | some f => decide (f.kids.length <= 100) && f.kids.all fun s => decide (s.least <= 1000 /\ s.mT <= 1000) | none => true) = true := by decide +kernel
 have := all ⟨n, by omega⟩
 simp only [h, bF, dp, dU] at this
 exact this
def ix (U : St) (bs : List (Nat × List AV)) : Prop := ∀ p ∈ bs, U.box p.1 = some p.2
section
variable {U ad : St} {bs : List (Nat × List AV)} {b : Nat} {x : List AV}
theorem ix.uM (h : ix U bs) (e : cF U ad) : ix ad bs := fun p hp => e.bA (h p hp)
theorem ix.cons (h : ix U bs) (k : U.box b = some x) : ix U ((b, x) :: bs) := fun p hp => by
 rcases dD.1 hp with rfl | hp
 · exact k
 · exact h p hp
theorem ix.set (h : ix U bs) (hb : ∀ p ∈ bs, p.1 ≠ b) {y : Live} : ix (U.set b y) bs := fun p hp => by
 rw [aP (hb p hp)]; exact h p hp
theorem ix.del (h : ix U bs) (hb : ∀ p ∈ bs, p.1 ≠ b) : ix (U.del b) bs := fun p hp => by
 rw [gi (hb p hp)]; exact h p hp
theorem ix.fresh (h : ix U bs) (f : U.cj b) : ∀ p ∈ bs, p.1 ≠ b := fun p hp => f.ca (h p hp)
end
theorem TR {e : TypeId} {x : AV} {z : AV} {kq : AV -> Prop} (hx : x.cr = true) (hc : au x = [x]) (hk : kq (.vec 1 .full [x])) : av K (aD (some (e, 1)) (some [z]) 1 false [(0, x)]) kq := by
 rw [vM]
 refine ⟨by omega, ?_⟩
 rw [tJ (o := 0) (s := 1) rfl]
 refine ⟨⟨hx, by rw [hc]; rfl, by simp [bp]⟩, ?_⟩
 rw [ym, hc]
 exact ⟨rfl, hk⟩
theorem fz.loop {az U : St} {v : AV} {e : TypeId} {sz n : Nat} {l : List AV} {o : Nat} {L L' : eg} (h : fz az U v e sz n l) (ho : U.loop o = some L) (hx : cF az (U.set o (.loop L'))) : fz az (U.set o (.loop L')) v e sz n l := by
 refine ⟨?_, h.z, h.t, hx⟩
 rcases h.g with g | ⟨τ, r1, r2, r3⟩
 · exact .inl g
 · refine .inr ⟨τ, r1, ?_, r3⟩
   rw [gn]; exact r2
   rintro rfl
   unfold St.tok at r2; unfold St.loop at ho
   split at ho
   · rename_i e; simp [e] at r2
   · cases ho
theorem Bp {l : List Nd} {ks : List Nat} {k : Nat} {x : Nd} (h : l[k]? = some x) : eO l (ks ++ [k]) = eO l ks ++ [x.kind] := by simp [eO, h]
theorem N8 {U : St} {R : cm -> St -> Prop} {v : AV} {l : List Nd} {n : Nat} {x : Nd} (hv : eS v l.length (cR l)) (hx : l[n]? = some x) (hl : l.length <= 10000) (jM : x.text.length <= 3000) (kZ : ∀ ad, cF U ad)
 (h : ∀ ad, cF U ad -> R (.ret (.bool (fO l n x))) ad) : ae K 131 [.agg [v], .int .i64 (n : Nat), kW] U R := by
 refine HX ?_
 unfold HW
 have U3 := (cT.1 hx).1
 rw [eH rfl]
 intro b3 il
 have k3 : (U.new b3 (.box (au (.agg [v])))).box b3 = some [v] := aN
 have e1 := bz il (x := .box (au (.agg [v])))
 generalize U.new b3 (.box (au (.agg [v]))) = bM at *
 rw [eH rfl]
 intro b4 nv
 have k4 : (bM.new b4 (.box (au (.int .i64 (n : Nat))))).box b4 = some [.int .i64 (n : Nat)] := aN
 have Bz := nv.ca k3
 have e2 := e1.new nv (x := .box (au (.int .i64 (n : Nat))))
 have k3 := (bz nv (x := .box (au (.int .i64 (n : Nat))))).bA k3
 generalize bM.new b4 (.box (au (.int .i64 (n : Nat)))) = bN at *
 rw [dv]
 intro b6 pj
 have k6 : (bN.new b6 (.box [.bool false])).box b6 = some [.bool false] := aN
 have ZV := pj.ca k3
 have ZW := pj.ca k4
 have f6 : U.live b6 = none := e2.fresh pj.1
 have e3 := e2.new pj (x := .box [.bool false])
 have k3 := (bz pj (x := .box [.bool false])).bA k3
 have k4 := (bz pj (x := .box [.bool false])).bA k4
 generalize bN.new b6 (.box [.bool false]) = cC at *
 simp only [aU, ag, ck]
 refine dx k3 rfl ?_
 refine dx k4 rfl ?_
 refine FM hv hx fun r => ?_
 rw [yF]
 refine ⟨by simp [cS], ?_⟩
 have AJ : (cS x ++ r).take 6 = cS x := by simp [cS]
 rw [AJ, dv]
 intro b7 pk
 have k7 : (cC.new b7 (.box [AV.int .u8 0, AV.str [], AV.int .i64 0, AV.int .i64 0, AV.int .i64 0, AV.int .i64 0])).box b7 = some [AV.int .u8 0, AV.str [], AV.int .i64 0, AV.int .i64 0, AV.int .i64 0, AV.int .i64 0] := aN
 have YS := pk.ca k3
 have YU := pk.ca k4
 have YW := pk.ca k6
 have f7 : U.live b7 = none := e3.fresh pk.1
 have e4 := e3.new pk (x := .box [AV.int .u8 0, AV.str [], AV.int .i64 0, AV.int .i64 0, AV.int .i64 0, AV.int .i64 0])
 have en := bz pk (x := .box [AV.int .u8 0, AV.str [], AV.int .i64 0, AV.int .i64 0, AV.int .i64 0, AV.int .i64 0])
 have k3 := en.bA k3
 have k4 := en.bA k4
 have k6 := en.bA k6
 clear en
 generalize cC.new b7 (.box [AV.int .u8 0, AV.str [], AV.int .i64 0, AV.int .i64 0, AV.int .i64 0, AV.int .i64 0]) = cU at *
 rw [dh k7]
 refine ⟨⟨rfl, rfl, by simp [cS]⟩, ?_⟩
 have j7 : (cU.set b7 (.box (aB [AV.int .u8 0, AV.str [], AV.int .i64 0, AV.int .i64 0, AV.int .i64 0, AV.int .i64 0] 0 (au (.agg (cS x)))))).box b7 = some (cS x) := by rw [aZ]; rfl
 have k3 : (cU.set b7 (.box (aB [AV.int .u8 0, AV.str [], AV.int .i64 0, AV.int .i64 0, AV.int .i64 0, AV.int .i64 0] 0 (au (.agg (cS x)))))).box b3 = some [v] := by rw [aP YS]; exact k3
 have k4 : (cU.set b7 (.box (aB [AV.int .u8 0, AV.str [], AV.int .i64 0, AV.int .i64 0, AV.int .i64 0, AV.int .i64 0] 0 (au (.agg (cS x)))))).box b4 = some [.int .i64 (n : Nat)] := by rw [aP YU]; exact k4
 have k6 : (cU.set b7 (.box (aB [AV.int .u8 0, AV.str [], AV.int .i64 0, AV.int .i64 0, AV.int .i64 0, AV.int .i64 0] 0 (au (.agg (cS x)))))).box b6 = some [.bool false] := by rw [aP YW]; exact k6
 have e5 := e4.set f7 (x := .box (aB [AV.int .u8 0, AV.str [], AV.int .i64 0, AV.int .i64 0, AV.int .i64 0, AV.int .i64 0] 0 (au (.agg (cS x)))))
 generalize cU.set b7 (.box (aB [AV.int .u8 0, AV.str [], AV.int .i64 0, AV.int .i64 0, AV.int .i64 0, AV.int .i64 0] 0 (au (.agg (cS x))))) = dw at *
 clear k7 il nv pj pk e1 e2 e3 e4
 refine dx j7 rfl ?_
 rw [look_ok, ag]
 have ret : ∀ (q : Bool) (ad : St), cF U ad -> (∃ y, ad.box b6 = some [y]) -> fO l n x = q -> (aM (some (false, 1)) (.box b6 0) (.bool q) ad).wp K ad (fun _ U => bI (some (false, 1)) (.box b6 0) U fun r0 => aj R r0 U) (aa R) := by
  intro q ad e ⟨y, hy⟩ hq
  rw [dh hy]
  refine ⟨⟨rfl, rfl, by simp⟩, ?_⟩
  rw [BO aZ rfl]
  subst hq
  exact aj.mk (h _ (e.set f6))
 cases hf : gg x.kind with
 | none =>
   have hq : fO l n x = false := by unfold fO; rw [hf]
   simp only [bP, List.drop, bD, Cj]
   rw [dv]
   intro b8 nO
   have k8 : (dw.new b8 (.box [AV.bool false, AV.bool false, AV.bool false, AV.aq])).box b8 = some [AV.bool false, AV.bool false, AV.bool false, AV.aq] := aN
   have Ra := nO.ca k6
   have e6 := e5.new nO (x := .box [AV.bool false, AV.bool false, AV.bool false, AV.aq])
   have f8 : U.live b8 = none := e5.fresh nO.1
   have k6 := (bz nO (x := .box [AV.bool false, AV.bool false, AV.bool false, AV.aq])).bA k6
   generalize dw.new b8 (.box [AV.bool false, AV.bool false, AV.bool false, AV.aq]) = nD at *
   rw [dh k8]
   refine ⟨⟨rfl, rfl, by simp⟩, ?_⟩
   simp only [dm, ag, dJ, aT, show (true == false) = false from rfl, aI, bS, iC, aG, if_true]
   exact dF (ret false _ (e6.set f8) ⟨.bool false, by rw [aP Ra]; exact k6⟩ hq)
 | some f =>
   simp only [bP, List.drop, bD]
   rw [dv]
   intro b8 nO
   have k8 : (dw.new b8 (.box [AV.bool false, AV.bool false, AV.bool false, AV.aq])).box b8 = some [AV.bool false, AV.bool false, AV.bool false, AV.aq] := aN
   have YT := nO.ca k3
   have YV := nO.ca k4
   have Ra := nO.ca k6
   have Y1 := nO.ca j7
   have e6 := e5.new nO (x := .box [AV.bool false, AV.bool false, AV.bool false, AV.aq])
   have f8 : U.live b8 = none := e5.fresh nO.1
   have en := bz nO (x := .box [AV.bool false, AV.bool false, AV.bool false, AV.aq])
   have k3 := en.bA k3
   have k4 := en.bA k4
   have k6 := en.bA k6
   have j7 := en.bA j7
   clear en
   generalize dw.new b8 (.box [AV.bool false, AV.bool false, AV.bool false, AV.aq]) = nD at *
   have AN : (jE f).length = 4 := rfl
   rw [dh k8]
   refine ⟨⟨rfl, rfl, by simp [AN]⟩, ?_⟩
   have j8 : (nD.set b8 (.box (aB [AV.bool false, AV.bool false, AV.bool false, AV.aq] 0 (au (.agg (jE f)))))).box b8 = some (jE f) := by rw [aZ]; rfl
   have k3 : (nD.set b8 (.box (aB [AV.bool false, AV.bool false, AV.bool false, AV.aq] 0 (au (.agg (jE f)))))).box b3 = some [v] := by rw [aP YT]; exact k3
   have k4 : (nD.set b8 (.box (aB [AV.bool false, AV.bool false, AV.bool false, AV.aq] 0 (au (.agg (jE f)))))).box b4 = some [.int .i64 (n : Nat)] := by rw [aP YV]; exact k4
   have k6 : (nD.set b8 (.box (aB [AV.bool false, AV.bool false, AV.bool false, AV.aq] 0 (au (.agg (jE f)))))).box b6 = some [.bool false] := by rw [aP Ra]; exact k6
   have j7 : (nD.set b8 (.box (aB [AV.bool false, AV.bool false, AV.bool false, AV.aq] 0 (au (.agg (jE f)))))).box b7 = some (cS x) := by rw [aP Y1]; exact j7
   have e7 := e6.set f8 (x := .box (aB [AV.bool false, AV.bool false, AV.bool false, AV.aq] 0 (au (.agg (jE f)))))
   generalize nD.set b8 (.box (aB [AV.bool false, AV.bool false, AV.bool false, AV.aq] 0 (au (.agg (jE f))))) = l8 at *
   clear k8 nO e5 e6
   have hQ : fO l n x = (decide (1 <= x.size /\ x.size <= (l.length : Int) - n) && (jV x f && ((ej l ((n : Int) + x.size) l.length (n + 1)).all (fun k => decide (1 <= cq l k /\ (k : Int) + cq l k <= n + x.size)) &&
    (decide (((behind l (n + 1) (ej l ((n : Int) + x.size) l.length (n + 1)) : Nat) : Int) = n + x.size) && mf (eO l (ej l ((n : Int) + x.size) l.length (n + 1))) f.kids)))) := by unfold fO; rw [hf]
   simp only [dm, ag, cu, aT, fC, aI, bT, aC]
   have hlen : bZ (some false) v = .val (.int .i64 l.length) := hv.len
   refine kM (eu k3 rfl ?_)
   rw [hlen, aC]
   refine eu k4 rfl ?_
   rw [fL, dI, fP, aC]
   refine ⟨bh (by omega) (by omega), ?_⟩
   refine kM (eu j7 rfl (qP (ln _ _ _) ?_))
   simp only [dm, aC, aG, bl, if_false, ag]
   have bad : fO l n x = false -> (aM (some (false, 1)) (.box b6 0) (.bool false) l8).wp K l8 (fun _ U => bI (some (false, 1)) (.box b6 0) U fun r0 => aj R r0 U) (aa R) := fun hq => ret false _ e7 ⟨_, k6⟩ hq
   by_cases hw : 1 <= x.size /\ x.size <= (l.length : Int) - n
   rotate_left
   · simp only [hw, db, dJ, aT, show (true == false) = false from rfl, aI, bS, iC, aG, if_true, ag]
     exact dF (bad (by rw [hQ, decide_eq_false hw]; rfl))
   rw [decide_eq_true hw, Bool.true_and] at hQ
   simp only [hw, cV, cu, aT, fC, aI, bT]
   simp only [and_self, cV, cu, aT, fC, aI, bT]
   refine kM (eu j8 rfl (kM (eu j7 rfl ?_)))
   rw [pS, aC, Ao, aC]
   have YD : (!decide (x.text = w_)) = decide (x.text ≠ []) := by
    by_cases h : x.text = [] <;> simp [h, w_]
   rw [YD]
   simp only [aG, bl, if_false, ag]
   have ph : jV x f = ((f.text == decide (x.text ≠ [])) && ((!f.text || kK x.text) && (kn x.n && (kn x.m && ((f.n || decide (x.n = 0)) && (f.m || decide (x.m = 0))))))) := by
    unfold jV
    have e0 : (x.text != []) = decide (x.text ≠ []) := by by_cases h : x.text = [] <;> simp [h]
    have e1 : (x.n == 0) = decide (x.n = 0) := by by_cases h : x.n = 0 <;> simp [h]
    have e2 : (x.m == 0) = decide (x.m = 0) := by by_cases h : x.m = 0 <;> simp [h]
    rw [e0, e1, e2]; simp only [Bool.and_assoc]
   cases ht : (f.text != decide (x.text ≠ [])) with
   | true =>
     simp only [aT, show (true == false) = false from rfl, aI, bS, iC, aG, if_true, ag]
     refine dF (bad ?_)
     have : (f.text == decide (x.text ≠ [])) = false := by revert ht; cases f.text <;> cases decide (x.text ≠ []) <;> simp
     rw [hQ, ph, this]; rfl
   | false =>
   have tp : (f.text == decide (x.text ≠ [])) = true := by revert ht; cases f.text <;> cases decide (x.text ≠ []) <;> simp
   rw [tp, Bool.true_and] at ph
   simp only [aT, fC, aI, bT]
   refine kM (eu j8 rfl ?_)
   simp only [aC]
   have nm : ∀ (A : Prop), ((!f.text || kK x.text) = true -> A) ->
    ah K (aF (.bool f.text) true) (af (some 1) (.box b7 0)) (fun vg =>
    ah K (aF (.bool f.text) true) (ao (some (false, 1)) vg l8) (fun v53 =>
    ah K (aF (.bool f.text) true) (aA.enter 208 [v53]) (fun xw =>
    ah K (aF (.bool f.text) true) (gL .not xw) (fun vi =>
    av K (bu (.bool f.text) vi (.bool false)) (fun uc =>
    ay (if false = true then AV.bool true else uc) ((aM (some (false, 1)) (.box b6 0) (.bool false) l8).wp K l8 (fun _ U => bI (some (false, 1)) (.box b6 0) U fun r0 => aj R r0 U) (aa R)) A))))) := by
    intro A hA
    cases Qu : f.text with
    | false =>
      simp only [aT, show (false == true) = false from rfl, aI, bS, aG, bl, if_false, aC, ag]
      exact dP (hA (by rw [Qu]; rfl))
    | true =>
      simp only [aT, fC, aI, bT]
      refine kM (eu j7 rfl (qP (Fh _ jM) ?_))
      simp only [dm, aC, aG, if_true, bl, if_false, ag]
      cases yW : kK x.text with
      | true => exact dP (hA (by rw [Qu, yW]; rfl))
      | false => exact dF (bad (by rw [hQ, ph, Qu, yW]; rfl))
   refine nm _ fun yW => ?_
   clear nm
   rw [yW, Bool.true_and] at ph
   simp only [aU, ag, ck]
   refine dx j7 rfl ((ln _ _ _).go ?_)
   have GD : ∀ a : Int, decide (0 <= a /\ a <= 1000000) = kn a := fun _ => rfl
   rw [GD]
   simp only [dm, ag]
   cases hN : kn x.n with
   | false =>
     simp only [dJ, aT, show (true == false) = false from rfl, aI, bS, iC, aG, if_true, ag]
     exact dF (bad (by rw [hQ, ph, hN]; rfl))
   | true =>
   rw [hN, Bool.true_and] at ph
   simp only [cu, aT, fC, aI, bT, aC]
   refine eu j7 rfl (qP (ln _ _ _) ?_)
   rw [GD]
   simp only [dm, aC, aG, bl, if_false, ag]
   cases hM : kn x.m with
   | false =>
     simp only [dJ, aT, show (true == false) = false from rfl, aI, bS, iC, aG, if_true, ag]
     exact dF (bad (by rw [hQ, ph, hM]; rfl))
   | true =>
   rw [hM, Bool.true_and] at ph
   simp only [cu, aT, fC, aI, bT, aC]
   refine eu j8 rfl ?_
   simp only [dm, aC]
   have Nl : ∀ (kq : AV -> Prop), ((f.n || decide (x.n = 0)) = true -> kq (.bool false)) -> ((f.n || decide (x.n = 0)) = false -> kq (.bool true)) ->
    ah K (aF (.bool !f.n) true) (.val (.box b7 2)) (fun JH => ah K (aF (.bool !f.n) true) (ao (some (false, 1)) JH l8) fun Cd => ah K (aF (.bool !f.n) true) (aw .neq (BT.mk false false false none false) true Cd (AV.int .i64 0)) fun v75 =>
     av K (bu (.bool !f.n) v75 (.bool false)) kq) := by
    intro kq h1 h2
    cases hfn : f.n with
    | true =>
      simp only [cu, aT, show (false == true) = false from rfl, aI, bS, aG, bl, if_false, aC]
      exact h1 (by rw [hfn]; rfl)
    | false =>
      simp only [dJ, aT, fC, aI, bT, aC]
      refine eu j7 rfl ?_
      rw [cL, aC]
      simp only [aG, if_true, aC]
      by_cases h0 : x.n = 0
      · simp only [h0, cV, cu]; exact h1 (by simp [h0])
      · simp only [h0, db, dJ]; exact h2 (by rw [hfn]; simp [h0])
   have Nk : ∀ (kq : AV -> Prop), ((f.m || decide (x.m = 0)) = true -> kq (.bool false)) -> ((f.m || decide (x.m = 0)) = false -> kq (.bool true)) ->
    ah K (aF (.bool !f.m) true) (.val (.box b7 3)) (fun JH => ah K (aF (.bool !f.m) true) (ao (some (false, 1)) JH l8) fun Cd => ah K (aF (.bool !f.m) true) (aw .neq (BT.mk false false false none false) true Cd (AV.int .i64 0)) fun v75 =>
     av K (bu (.bool !f.m) v75 (.bool false)) kq) := by
    intro kq h1 h2
    cases hfn : f.m with
    | true =>
      simp only [cu, aT, show (false == true) = false from rfl, aI, bS, aG, bl, if_false, aC]
      exact h1 (by rw [hfn]; rfl)
    | false =>
      simp only [dJ, aT, fC, aI, bT, aC]
      refine eu j7 rfl ?_
      rw [cL, aC]
      simp only [aG, if_true, aC]
      by_cases h0 : x.m = 0
      · simp only [h0, cV, cu]; exact h1 (by simp [h0])
      · simp only [h0, db, dJ]; exact h2 (by rw [hfn]; simp [h0])
   refine Nl _ (fun hn => ?_) fun hn => ?_
   rotate_left
   · simp only [bl, if_false, aT, show (true == false) = false from rfl, aI, bS, iC, aG, if_true, ag]
     exact dF (bad (by rw [hQ, ph, hn]; rfl))
   rw [hn, Bool.true_and] at ph
   simp only [bl, if_false, aT, fC, aI, bT, aC]
   refine eu j8 rfl ?_
   simp only [dm, aC]
   refine Nk _ (fun hm => ?_) fun hm => ?_
   rotate_left
   · simp only [bl, if_false, aG, if_true, ag]
     exact dF (bad (by rw [hQ, ph, hm]; rfl))
   rw [hm] at ph
   rw [ph, Bool.true_and] at hQ
   simp only [bl, if_false, aG, ag]
   refine dP ?_
   clear Nl Nk ph bad
   rw [dv]
   intro nN Kq
   have H7 : ix l8 [(b3, [v]), (b4, [.int .i64 (n : Nat)]), (b6, [.bool false]), (b7, cS x), (b8, jE f)] :=
    (((((show ix l8 [] from fun p hp => by cases hp).cons j8).cons j7).cons k6).cons k4).cons k3
   have zf : (l8.new nN (.box [.aq])).box nN = some [.aq] := aN
   have V7 := H7.fresh Kq
   have H8 := H7.uM (bz Kq (x := .box [.aq]))
   generalize l8.new nN (.box [.aq]) = zB at *
   clear Kq H7
   refine dx (H8 (b4, [.int .i64 (n : Nat)]) (by simp)) rfl ?_
   rw [cW]
   refine ⟨bh (by omega) (by omega), ?_⟩
   rw [dv]
   intro fW pW
   have MH : (zB.new fW (.box [.int .i64 0])).box fW = some [.int .i64 0] := aN
   have QJ := (H8.cons zf).fresh pW
   have H9 := H8.uM (bz pW (x := .box [.int .i64 0]))
   have zf := (bz pW (x := .box [.int .i64 0])).bA zf
   generalize zB.new fW (.box [.int .i64 0]) = nT at *
   clear pW H8
   rw [dh MH]
   refine ⟨⟨rfl, rfl, by simp⟩, ?_⟩
   have Mt : ∀ p ∈ [(b3, [v]), (b4, [.int .i64 (n : Nat)]), (b6, [.bool false]), (b7, cS x), (b8, jE f)], p.1 ≠ fW := fun p hp => QJ p (List.mem_cons_of_mem _ hp)
   have E8 : nN ≠ fW := QJ (nN, _) (List.mem_cons_self ..)
   have OK := H9.set Mt (y := .box (aB [AV.int .i64 0] 0 (au (.int .i64 ((n : Int) + 1)))))
   have zf : (nT.set fW (.box (aB [AV.int .i64 0] 0 (au (.int .i64 ((n : Int) + 1)))))).box nN = some [.aq] := by rw [aP E8]; exact zf
   have MH : (nT.set fW (.box (aB [AV.int .i64 0] 0 (au (.int .i64 ((n : Int) + 1)))))).box fW = some [.int .i64 ((n : Int) + 1)] := by rw [aZ]; rfl
   generalize nT.set fW (.box (aB [AV.int .i64 0] 0 (au (.int .i64 ((n : Int) + 1))))) = so at *
   clear H9
   rw [pO (OK (b3, [v]) (by simp))]
   refine ⟨by simp, ?_⟩
   refine dx (OK (b4, [.int .i64 (n : Nat)]) (by simp)) rfl ?_
   refine vF (n := n) (x := x) hv hx (bh (by omega) (by omega)) fun bn be bt W5 d1 d2 d3 f1 f2 f3 q1 q2 q3 s0 => ?_
   simp only [bB]
   have Xd := (((OK.uM s0).cons q3).cons q2).cons q1
   have zf := s0.bA zf
   have Wr := s0.bA MH
   have Rd : ∀ b y, so.box b = some y -> b ≠ bn /\ b ≠ be /\ b ≠ bt := fun b y hb =>
    ⟨fun e => dy hb (e ▸ f1), fun e => dy hb (e ▸ f2), fun e => dy hb (e ▸ f3)⟩
   have TF : ∀ p ∈ [(bn, [AV.int .i64 (n : Nat)]), (be, [.int .i64 ((n : Int) + x.size)]), (bt, [v]), (b3, [v]), (b4, [.int .i64 (n : Nat)]), (b6, [.bool false]), (b7, cS x), (b8, jE f)], p.1 ≠ nN := by
    intro p hp
    have g := Rd nN _ (by assumption)
    simp only [dD] at hp
    rcases hp with rfl | rfl | rfl | hp
    · exact g.1.symm
    · exact g.2.1.symm
    · exact g.2.2.symm
    · exact V7 p (by simpa using hp)
   have TG : ∀ p ∈ [(bn, [AV.int .i64 (n : Nat)]), (be, [.int .i64 ((n : Int) + x.size)]), (bt, [v]), (b3, [v]), (b4, [.int .i64 (n : Nat)]), (b6, [.bool false]), (b7, cS x), (b8, jE f)], p.1 ≠ fW := by
    intro p hp
    have g := Rd fW _ MH
    simp only [dD] at hp
    rcases hp with rfl | rfl | rfl | hp
    · exact g.1.symm
    · exact g.2.1.symm
    · exact g.2.2.symm
    · exact Mt p (by simpa using hp)
   generalize Gw : [(bn, [AV.int .i64 (n : Nat)]), (be, [.int .i64 ((n : Int) + x.size)]), (bt, [v]), (b3, [v]), (b4, [.int .i64 (n : Nat)]), (b6, [.bool false]), (b7, cS x), (b8, jE f)] = bs at *
   have mem : ∀ {ad : St}, ix ad bs -> ad.box bn = some [.int .i64 (n : Nat)] /\ ad.box be = some [.int .i64 ((n : Int) + x.size)] /\ ad.box bt = some [v] /\ ad.box b3 = some [v] /\ ad.box b4 = some [.int .i64 (n : Nat)] /\ ad.box b6 = some [.bool false] /\ ad.box b7 = some (cS x) /\ ad.box b8 = some (jE f) := by
    intro ad hH
    subst Gw
    exact ⟨hH (bn, [.int .i64 (n : Nat)]) (by simp), hH (be, [.int .i64 ((n : Int) + x.size)]) (by simp), hH (bt, [v]) (by simp), hH (b3, [v]) (by simp), hH (b4, [.int .i64 (n : Nat)]) (by simp), hH (b6, [.bool false]) (by simp), hH (b7, cS x) (by simp), hH (b8, jE f) (by simp)⟩
   have UY : ∀ {ad : St} {o : Nat} {L : eg}, ix ad bs -> ad.loop o = some L -> ∀ p ∈ bs, p.1 ≠ o := fun hH ho p hp => bE (hH p hp) ho
   refine rZ (fun ks ad => ix ad bs /\ (∃ vk, ad.box nN = some [vk] /\ fz U ad vk 5 1 ks.length (jG (eO l ks))) /\ ad.box fW = some [.int .i64 ((behind l (n + 1) ks : Nat) : Int)] /\ ks.all (fun k => decide (1 <= cq l k /\ (k : Int) + cq l k <= n + x.size)) = true) (fun ad => ad.box b6 = some [.bool false] /\ fO l n x = false) hv U3 (by omega) (by omega)
    (fun ks ad hI => ⟨(mem hI.1).1, (mem hI.1).2.1, (mem hI.1).2.2.1⟩) (fun ks ad o L L' hI ho => ?_) (fun ks ad o L hI ho => ?_) (fun ad o L L' hJ ho => ?_) (fun ks jY y ad o L1 q hI hy aH lB U2 Dr tl hL QM U7 => ?_) (fun ks ad o L iD hI hL => ?_) (fun ad o L hJ hL => ?_) ⟨Xd, ⟨_, zf, by simpa [eO, jG] using fz.nil (kZ _)⟩, by simpa [behind] using Wr, rfl⟩
   · obtain ⟨hH, ⟨vk, iE, kD⟩, sx, bw⟩ := hI
     exact ⟨hH.set (UY hH ho), ⟨vk, by rw [aP (bE iE ho)]; exact iE, kD.loop ho (kZ _)⟩, by rw [aP (bE sx ho)]; exact sx, bw⟩
   · obtain ⟨hH, ⟨vk, iE, kD⟩, sx, bw⟩ := hI
     have e := bz ho (x := .loop L)
     exact ⟨hH.uM e, ⟨vk, e.bA iE, kD.mono e⟩, e.bA sx, bw⟩
   · exact ⟨by rw [aP (bE hJ.1 ho)]; exact hJ.1, hJ.2⟩
   · obtain ⟨hH, ⟨vk, iE, kD⟩, sx, bw⟩ := hI
     obtain ⟨mn, me, mt, m3, m4, m6, m7, m8⟩ := mem hH
     refine eu iE rfl ?_
     refine eu m3 rfl ?_
     refine yn hv hy fun r => ?_
     simp only [cJ, aC, dC, lj, cS, jn, eP]
     refine TR rfl rfl ?_
     refine JK kD (m := 1) (l2 := [.int .u8 y.kind]) rfl rfl (by omega) (by omega) fun bN v' g2 k2 => ?_
     have jL : ∀ b z, ad.box b = some z -> bN.live b = ad.live b /\ bN.box b = some z := fun b z hb => by
      cases sy : ad.live b with
      | none => exact absurd sy (dy hb)
      | some w =>
        have := k2 b w (fun n' l' pt => by
         rcases kD.g with ⟨_, _, h3⟩ | ⟨τ, r1, r2, _⟩
         · rw [h3] at pt; cases pt
         · rw [r1] at pt; cases pt; exact eh hb r2 rfl) sy
        exact ⟨this, by rw [eU (this.trans sy.symm)]; exact hb⟩
     refine ⟨fun b hb => ?_, ?_⟩
     · simp only [cQ, jI, iN, fx, dD, List.not_mem_nil, or_false] at hb
       rcases hb with rfl | rfl
       · exact (jL _ _ m3).1
       · exact (jL _ _ iE).1
     have UC : ix bN bs := fun p hp => (jL _ _ (hH p hp)).2
     have Ep := (jL _ _ sx).2
     have nH := (jL _ _ iE).2
     have kY : v'.cr = true /\ au v' = [v'] := by
      rcases g2.g with ⟨h0, _, _⟩ | ⟨τ, r1, _, _⟩
      · omega
      · rw [r1]; exact ⟨rfl, rfl⟩
     rw [dh nH]
     refine ⟨⟨kY.1, by rw [kY.2]; rfl, by simp⟩, ?_⟩
     have UD := UC.set TF (y := .box (aB [vk] 0 (au v')))
     have Kl : (bN.set nN (.box (aB [vk] 0 (au v')))).box fW = some [.int .i64 ((behind l (n + 1) ks : Nat) : Int)] := by rw [aP E8.symm]; exact Ep
     have VO : (bN.set nN (.box (aB [vk] 0 (au v')))).box nN = some [v'] := by rw [aZ, kY.2]; rfl
     have g3 : fz U (bN.set nN (.box (aB [vk] 0 (au v')))) v' 5 1 (ks.length + 1) (jG (eO l ks) ++ [.int .u8 y.kind]) := by
      refine ⟨?_, g2.z, g2.t, kZ _⟩
      rcases g2.g with g | ⟨τ, r1, r2, r3⟩
      · exact .inl g
      · exact .inr ⟨τ, r1, by rw [gn (eh nH r2).symm]; exact r2, r3⟩
     have uP : (bN.set nN (.box (aB [vk] 0 (au v')))).loop o = some L1 := by
      obtain ⟨_, kl⟩ := te kD.g k2
      rw [eE]; exact kl hL
      rw [dM, if_neg (bE nH (kl hL)).symm]
     generalize bN.set nN (.box (aB [vk] 0 (au v'))) = cC at *
     clear g2 k2 jL UC Ep nH hH iE kD sx mn me mt m3 m4 m6 m7 m8
     obtain ⟨mn, me, mt, m3, m4, m6, m7, m8⟩ := mem UD
     refine eu m4 rfl ?_
     refine eu m7 rfl ?_
     rw [zW]
     refine ⟨bh (by omega) (by omega), ?_⟩
     have ya := (cT.1 hy).1
     rw [fL, dI, fP, aC]
     refine ⟨bh (by omega) (by omega), ?_⟩
     refine eu m3 rfl ?_
     refine yn hv hy fun r => ?_
     simp only [cJ, aC, cS, jn, List.drop, lj, eP]
     refine qP (ln _ _ _) ?_
     simp only [dm, aC]
     have Ba : cq l jY = y.size.toNat := by unfold cq; rw [hy]; rfl
     by_cases Vd : 1 <= y.size /\ y.size <= (n : Int) + x.size - jY
     · simp only [Vd, and_self, cV, cu]
       refine dP ?_
       refine dx m3 rfl ?_
       refine FM hv hy fun r => ?_
       simp only [cJ, ag, cS, jn, List.drop, o8, bD, cW]
       refine ⟨bh (by omega) (by omega), ?_⟩
       rw [dh Kl]
       refine ⟨⟨rfl, rfl, by simp⟩, ?_⟩
       refine QM _ ⟨UD.set TG, ⟨v', by rw [aP E8]; exact VO, ?_⟩, ?_, ?_⟩ (by omega) ?_
       · have : fz U (cC.set fW (.box (aB [.int .i64 ((behind l (n + 1) ks : Nat) : Int)] 0 (au (.int .i64 ((jY : Int) + y.size)))))) v' 5 1 (ks.length + 1) (jG (eO l ks) ++ [.int .u8 y.kind]) := by
          refine ⟨?_, g3.z, g3.t, kZ _⟩
          rcases g3.g with g | ⟨τ, r1, r2, r3⟩
          · exact .inl g
          · exact .inr ⟨τ, r1, by rw [gn (eh Kl r2).symm]; exact r2, r3⟩
         rw [Bp hy]
         simpa [jG] using this
       · rw [aZ, uJ, Ba]
         have : ((jY + y.size.toNat : Nat) : Int) = (jY : Int) + y.size := by omega
         rw [this]; rfl
       · rw [List.all_append, bw]
         simp only [List.all_cons, List.all_nil, Bool.and_true, Bool.true_and, dp, Ba]
         omega
       · rw [eE]; exact uP
         rw [dM, if_neg (bE Kl uP).symm]
     · simp only [Vd, db, dJ]
       refine dF ?_
       rw [dh m6]
       refine ⟨⟨rfl, rfl, by simp⟩, ?_⟩
       refine U7 _ ⟨by rw [aZ]; rfl, ?_⟩ ?_
       · obtain ⟨r', oL⟩ := tl
         rw [hQ, oL, List.all_append, List.all_cons]
         have : decide (1 <= cq l jY /\ (jY : Int) + cq l jY <= n + x.size) = false := by
          rw [decide_eq_false_iff_not, Ba]; omega
         rw [this]; simp
       · rw [eE]; exact uP
         rw [dM, if_neg (bE m6 uP).symm]
   · obtain ⟨hH, ⟨vk, iE, kD⟩, sx, bw⟩ := hI
     have Xx := hH.del (UY hH hL)
     have Ep : (ad.del o).box fW = some [.int .i64 ((behind l (n + 1) ks : Nat) : Int)] := by rw [gi (bE sx hL)]; exact sx
     have nH : (ad.del o).box nN = some [vk] := by rw [gi (bE iE hL)]; exact iE
     obtain ⟨mn, me, mt, m3, m4, m6, m7, m8⟩ := mem Xx
     have Ya : ks.length <= l.length := by rw [iD]; exact rG _ _ _ _
     have sy : behind l (n + 1) ks <= n + x.size.toNat + n + 1 := by
      clear hQ
      rcases List.eq_nil_or_concat ks with h0 | ⟨ks', k, h0⟩
      · rw [h0]; simp [behind]
        try omega
      · rw [h0, List.concat_eq_append, uJ]
        rw [h0, List.concat_eq_append, List.all_append, bF] at bw
        have := bw.2
        simp only [List.all_cons, List.all_nil, Bool.and_true, dp] at this
        omega
     refine dx Ep rfl ?_
     refine dx m4 rfl ?_
     refine dx m7 rfl ?_
     rw [cW]
     refine ⟨bh (by omega) (by omega), ?_⟩
     refine FI ?_
     rw [<- iD] at hQ
     rw [bw, Bool.true_and] at hQ
     by_cases qx : ((behind l (n + 1) ks : Nat) : Int) = n + x.size
     · rw [decide_eq_true qx, Bool.true_and] at hQ
       simp only [qx, cV, aT, fC, aI, bT, aU, aC, ck]
       refine eu nH rfl ?_
       refine eu m8 rfl ?_
       refine dF ?_
       have kY : eS vk (eO l ks).length (jG (eO l ks)) := by
        have : (eO l ks).length = ks.length := by simp [eO]
        rw [this]; exact kD.sl
       have mi := AF hf
       refine P1 kY (by simp [eO]; omega) mi.1 mi.2 fun nT e9 => ?_
       simp only [bB, aG, if_true, ag]
       exact ret _ nT (kZ _) ⟨_, e9.bA m6⟩ hQ
     · rw [decide_eq_false qx, Bool.false_and] at hQ
       simp only [qx, db, aT, show (false == true) = false from rfl, aI, bS, aG, bl, if_false, ag]
       refine dP ?_
       exact ret false _ (kZ _) ⟨_, m6⟩ hQ
   · have h6 : (ad.del o).box b6 = some [.bool false] := by rw [gi (bE hJ.1 hL)]; exact hJ.1
     rw [BO h6 rfl]
     refine aj.mk ?_
     have := h (ad.del o) (kZ _)
     rw [hJ.2] at this; exact this
end Go.Rip
namespace Go.Rip
open Go.Proofs Go.RowKit
theorem wy (ad : St) : cF (bj ⟨.e, 0⟩) ad := fun b x h => by cases h
theorem Hm {v : AV} {l : List Nd} {n : Nat} {x : Nd} (hv : eS v l.length (cR l)) (hc : closed v = true) (hx : l[n]? = some x) (hl : l.length <= 10000) (jM : x.text.length <= 3000) : Pure K 131 [.agg [v], .int .i64 (n : Nat), kW] (.bool (fO l n x)) :=
 Pure.of (by simp [bH, closed, hc, show closed kW = true by kernel_rfl]) rfl (fun U => rfl) fun R hR => N8 hv hx hl jM wy fun ad _ => hR ad
def gG (l : List Nd) : Bool := match l[0]? with | none => false | some x0 => decide (x0.kind = 1) && (decide (x0.size = ((l.length : Nat) : Int)) && (List.range l.length).all fun n => match l[n]? with | some x => fO l n x | none => true)
theorem od {l : List Nd} {x0 : Nd} (h0 : l[0]? = some x0) : gG l = true ↔ (x0.kind = 1 /\ x0.size = l.length /\ ∀ n x, l[n]? = some x -> fO l n x = true) := by
 unfold gG
 rw [h0]
 simp only [bF, dp, dU, List.mem_range]
 refine and_congr_right fun _ => and_congr_right fun _ => ⟨fun h n x hx => ?_, fun h n hn => ?_⟩
 · have := h n (cT.1 hx).1
   rw [hx] at this; exact this
 · obtain ⟨x, hx⟩ : ∃ x, l[n]? = some x := ⟨l[n], by simp [hn]⟩
   rw [hx]; exact h n x hx
theorem HF {l : List Nd} {n : Nat} {x : Nd} (hx : l[n]? = some x) (h : fO l n x = false) : gG l = false := by
 cases h0 : l[0]? with
 | none => unfold gG; rw [h0]
 | some x0 =>
   cases hr : gG l with
   | false => rfl
   | true => rw [((od h0).1 hr).2.2 n x hx] at h; cases h
theorem Fl {v : AV} {l : List Nd} (hv : eS v l.length (cR l)) (hc : closed v = true) (hl : l.length <= 10000) (jM : ∀ x ∈ l, x.text.length <= 3000) : Pure K 68 [.agg [v]] (.bool (gG l)) := by
 refine Pure.of (by simp [bH, closed, hc]) rfl (fun U => rfl) fun R hR => ?_
 refine Ln ?_
 unfold M0
 rw [eH rfl]
 intro b1 fq
 have m1 : ((bj ⟨.e, 0⟩).new b1 (.box (au (.agg [v])))).box b1 = some [v] := aN
 generalize (bj _).new b1 _ = az at *
 clear fq
 refine kM (kM (eu m1 rfl ?_))
 rw [hv.len, aC, bf, aC]
 cases h0 : l[0]? with
 | none =>
   have qA : l.length = 0 := by simpa using h0
   have hq : gG l = false := by unfold gG; rw [h0]
   simp only [qA, Int.natCast_zero, cV, aT, show (true == false) = false from rfl, aI, bS, aG, if_true, iC, aC]
   exact dF (aj.mk (by rw [<- hq]; exact hR _))
 | some x0 =>
   have qA : 0 < l.length := (cT.1 h0).1
   have bX : ¬ ((l.length : Int) = 0) := by omega
   have hQ : gG l = (decide (x0.kind = 1) && (decide (x0.size = ((l.length : Nat) : Int)) && (List.range l.length).all fun n => match l[n]? with | some x => fO l n x | none => true)) := by unfold gG; rw [h0]
   simp only [bX, db, aT, fC, aI, bT]
   refine kM (kM (eu m1 rfl ?_))
   refine yn (i := 0) hv h0 fun r => ?_
   simp only [cJ, aC, dC, lj, cS, jn, eP, cL, aG, bl, if_false]
   by_cases hk : x0.kind = 1
   rotate_left
   · simp only [hk, db, dJ, aT, show (true == false) = false from rfl, aI, bS, aG, if_true, iC, aC]
     exact dF (aj.mk (by rw [show false = gG l by rw [hQ]; simp [hk]]; exact hR _))
   simp only [hk, cV, cu, aT, fC, aI, bT]
   refine kM (kM (eu m1 rfl ?_))
   refine yn (i := 0) hv h0 fun r => ?_
   simp only [cJ, aC, List.drop, lj, cS, jn, eP]
   refine kM (kM (eu m1 rfl ?_))
   rw [hv.len, aC, cL, aC]
   simp only [aG, bl, if_false, aC]
   by_cases hs : x0.size = l.length
   rotate_left
   · simp only [hs, db, dJ]
     exact dF (aj.mk (by rw [show false = gG l by rw [hQ]; simp [hk, hs]]; exact hR _))
   simp only [hs, cV, cu]
   refine dP (wB.go ?_)
   simp only [aU, ag, ck]
   refine dx m1 rfl ?_
   rw [hv.len, ag]
   refine ⟨fun m v1 v3 gH v37 ad => ∃ i : Nat, m = l.length - i /\ i <= l.length /\ v1 = .box b1 0 /\ v3 = kW /\ gH = .int .i64 l.length /\ v37 = .int .i64 (i : Nat) /\ ad = az /\ ∀ j x, j < i -> l[j]? = some x -> fO l j x = true, ⟨_, 0, rfl, by omega, rfl, rfl, rfl, rfl, rfl, fun j x h => by omega⟩, ?_⟩
   rintro m v1 v3 gH v37 ad ⟨i, rfl, hi, rfl, rfl, rfl, rfl, rfl, bw⟩
   simp only [bO, ag]
   refine kX (fun aH => ?_) fun iX => ?_
   · have aH : i < l.length := by omega
     obtain ⟨x, hx⟩ : ∃ x, l[i]? = some x := ⟨l[i], by simp [aH]⟩
     rw [pO m1]
     refine ⟨by simp, ?_⟩
     refine (Hm hv hc hx hl (jM x (fw hx))).go ?_
     simp only [dm, ag]
     cases hq : fO l i x with
     | false => exact dF (aj.mk (by rw [<- HF hx hq]; exact hR _))
     | true =>
       refine dP ?_
       rw [cW]
       refine ⟨bh (by omega) (by omega), l.length - (i + 1), by omega, i + 1, rfl, by omega, rfl, rfl, rfl, by simp, rfl, fun j y hj hy => ?_⟩
       by_cases h : j = i
       · subst h; rw [hx] at hy; cases hy; exact hq
       · exact bw j y (by omega) hy
   · refine aj.mk ?_
     have : gG l = true := (od h0).2 ⟨hk, hs, fun n x hx => bw n x (by have := (cT.1 hx).1; omega) hx⟩
     rw [<- this]; exact hR _
theorem rm {v : AV} {l : List Nd} (hv : eS v l.length (cR l)) (hc : closed v = true) (hl : l.length <= 10000) (jM : ∀ x ∈ l, x.text.length <= 3000) : Pure K 30 [.agg [v]] (.int .i64 (ia l)) := by
 refine Pure.of (by simp [bH, closed, hc]) rfl (fun U => rfl) fun R hR => ?_
 refine Lh ?_
 unfold MU
 rw [eH rfl]
 intro b1 fq
 have m1 : ((bj ⟨.e, 0⟩).new b1 (.box (au (.agg [v])))).box b1 = some [v] := aN
 generalize (bj _).new b1 _ = az at *
 clear fq
 simp only [aU, ag, ck]
 refine dx m1 rfl ?_
 rw [hv.len, ag]
 simp only [eA, ag]
 refine kX (fun tk => ?_) fun hle => ?_
 · refine aj.mk ?_
   have : ia l = 5 := by unfold ia; rw [if_pos (by omega)]
   rw [<- this]; exact hR _
 rw [pO m1]
 refine ⟨by simp, ?_⟩
 refine pc [v] rfl ?_
 refine (Fl hv hc hl jM).go ?_
 simp only [dm, ag]
 have h9 : ¬ 900 < l.length := by omega
 cases hq : gG l with
 | false =>
   refine dF (aj.mk ?_)
   have : ia l = 4 := rn h9 fun h => by
    obtain ⟨t, rfl, h2, h3⟩ := h
    obtain ⟨x, r, e, _⟩ := t.lP
    have h0 : t.flat[0]? = some x := by rw [e]; rfl
    rw [(od h0).2 ((zr h0).2 ⟨t, rfl, h2, h3⟩)] at hq
    cases hq
   rw [<- this]; exact hR _
 | true =>
   refine dP ?_
   rw [pO m1]
   refine ⟨by simp, ?_⟩
   cases h0 : l[0]? with
   | none => unfold gG at hq; rw [h0] at hq; cases hq
   | some x0 =>
     have hr := (od h0).1 hq
     obtain ⟨t, rfl, h2, h3⟩ := (zr h0).1 hr
     have bX : t.flat ≠ [] := by intro e; rw [e] at h0; cases h0
     have cY := (u3 bX (by
      obtain ⟨y, r, e, _⟩ := t.lP
      rw [e] at h0 ⊢; simp at h0; subst h0; have := hr.2.1; rw [e] at this; exact this) hr.2.2)
     refine (Em hv hc (by omega) bX (fun x hx => ?_) ?_).go ?_
     · obtain ⟨n, hn, rfl⟩ := List.getElem_of_mem hx
       have := cY.1.2.2 n t.flat[n] (by simp [hn])
       omega
     · have := cY.1.2.1; omega
     · rw [CE]
       have Kt : ia t.flat = if 60 < t.deep \/ 24 < t.kids.length then 5 else 0 := by
        rw [F7 t h9]; unfold At; rw [if_neg (by simp [h2, h3])]
       rw [Kt] at hR
       by_cases hg : 60 < t.deep \/ 24 < t.kids.length
       · rw [if_pos hg] at hR
         have : (decide (60 < t.deep) || decide (24 < t.kids.length)) = true := by simpa using hg
         rw [this]
         exact dF (aj.mk (hR _))
       · rw [if_neg hg] at hR
         have : (decide (60 < t.deep) || decide (24 < t.kids.length)) = false := by simpa using hg
         rw [this]
         exact dP (aj.mk (hR _))
end Go.Rip
