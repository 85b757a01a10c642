/- Lemmas for the proof: no conditions. -/
import Derived.Test.YtnfpmiiopiinbaaGreatDoorRipZz
import Derived.Test.YtnfpmiiopiinbaaGreatDoorRipY
import Derived.Test.YtnfpmiiopiinbaaGreatDoorRipQ
set_option linter.unusedVariables false
set_option linter.unusedSimpArgs false
set_option linter.loopingSimpArgs false
namespace Go.Rip
open Go.Proofs Go.RowKit
def rv : List Int := (List.range 37).map fun i => ((i : Nat) : Int) + 1
theorem FF {k : Int} (h : k < 1 \/ 37 < k) : ∀ j ∈ rv, j ≠ k := by
 intro j hj
 simp only [rv, List.mem_map, List.mem_range] at hj
 obtain ⟨i, hi, rfl⟩ := hj
 omega
theorem HK : ∃ vs, lK = .dY (rv.map (.int .u8)) vs := ⟨_, by unfold lK rv; rfl⟩
theorem look_ok (k : Int) (U : St) : eM (some (.i, 204)) (some (.agg [AV.bool false, AV.bool false, AV.bool false, AV.ag])) lK (.int .u8 k) true U = .val (match gw k with | some f => .aN [.agg (j4 f), .bool true] | none => .aN [Dr, .bool false]) := by
 obtain ⟨vs, ux⟩ := HK
 rw [ux]
 show jz .i (.int .u8 k) Dr true (rv.map (.int .u8)) vs = _
 by_cases h : k < 1 \/ 37 < k
 · rw [qJ h]
   exact At rv vs (FF h)
 · obtain ⟨n, rfl⟩ : ∃ n : Nat, k = n := ⟨k.toNat, by omega⟩
   have := Gx ⟨n, by omega⟩
   unfold IT at this
   rw [ux] at this
   simp only at this
   split at this
   · rename_i v hv
     rw [hv, rn this]
     cases gw n <;> rfl
   · cases this
theorem eN.uC {U : St} {v : AV} {l : List Nd} (h : eN v l.length (bm l)) : j0 U v l := by
 rcases h with ⟨h0, _, h1⟩ | ⟨c, h1⟩
 · exact .inl (.inl ⟨h1, pK.1 h0⟩)
 · exact .inl (.inr ⟨c, h1⟩)
theorem BJ {k : Int} {f : Bj} (h : gw k = some f) : f.kids.length <= 100 /\ ∀ s ∈ f.kids, s.least <= 1000 /\ s.nI <= 1000 := by
 have hk : 1 <= k /\ k <= 37 := by
  by_cases h1 : k < 1 \/ 37 < k
  · rw [qJ h1] at h; cases h
  · omega
 obtain ⟨n, rfl⟩ : ∃ n : Nat, k = n := ⟨k.toNat, by omega⟩
 have all : ∀ n : Fin 38, (match gw ((n.val : Nat) : Int) with | some f => decide (f.kids.length <= 100) && f.kids.all fun s => decide (s.least <= 1000 /\ s.nI <= 1000) | none => true) = true := by decide +kernel
 have := all ⟨n, by omega⟩
 simp only [h, bM, dD, eh] at this
 exact this
def iX (U : St) (bs : List (Nat × List AV)) : Prop := ∀ p ∈ bs, U.box p.1 = some p.2
section
variable {U ad : St} {bs : List (Nat × List AV)} {b : Nat} {x : List AV}
theorem iX.vR (h : iX U bs) (e : cm U ad) : iX ad bs := fun p hp => e.bf (h p hp)
theorem iX.cons (h : iX U bs) (k : U.box b = some x) : iX U ((b, x) :: bs) := fun p hp => by
 rcases dA.1 hp with rfl | hp
 · exact k
 · exact h p hp
theorem iX.set (h : iX U bs) (hb : ∀ p ∈ bs, p.1 ≠ b) {y : Live} : iX (U.set b y) bs := fun p hp => by
 rw [aE (hb p hp)]; exact h p hp
theorem iX.del (h : iX U bs) (hb : ∀ p ∈ bs, p.1 ≠ b) : iX (U.del b) bs := fun p hp => by
 rw [iq (hb p hp)]; exact h p hp
theorem iX.fresh (h : iX U bs) (f : U.cB b) : ∀ p ∈ bs, p.1 ≠ b := fun p hp => f.cn (h p hp)
end
theorem VM {e : TypeId} {x : AV} {z : AV} {kq : AV -> Prop} (hx : x.cC = true) (hc : au x = [x]) (hk : kq (.vec 1 .full [x])) : ai K (aH (some (e, 1)) (some [z]) 1 false [(0, x)]) kq := by
 rw [sS]
 refine ⟨by omega, ?_⟩
 rw [oh (o := 0) (s := 1) rfl]
 refine ⟨⟨hx, by rw [hc]; rfl, by simp [bw]⟩, ?_⟩
 rw [vG, hc]
 exact ⟨rfl, hk⟩
theorem fM.loop {ay U : St} {v : AV} {e : TypeId} {sz n : Nat} {l : List AV} {o : Nat} {L L' : ey} (h : fM ay U v e sz n l) (ho : U.loop o = some L) (hx : cm ay (U.set o (.loop L'))) : fM ay (U.set o (.loop L')) v e sz n l := by
 refine ⟨?_, h.z, h.t, hx⟩
 rcases h.g with g | ⟨τ, r1, r2, r3⟩
 · exact .inl g
 · refine .inr ⟨τ, r1, ?_, r3⟩
   rw [iy]; exact r2
   rintro rfl
   unfold St.tok at r2; unfold St.loop at ho
   split at ho
   · rename_i e; simp [e] at r2
   · cases ho
theorem CA {l : List Nd} {ks : List Nat} {k : Nat} {x : Nd} (h : l[k]? = some x) : fh l (ks ++ [k]) = fh l ks ++ [x.kind] := by simp [fh, h]
theorem PQ {U : St} {R : cu -> St -> Prop} {v : AV} {l : List Nd} {n : Nat} {x : Nd} (hv : eN v l.length (bm l)) (hx : l[n]? = some x) (hl : l.length <= 10000) (fY : x.text.length <= 3000) (lL : ∀ ad, cm U ad)
 (h : ∀ ad, cm U ad -> R (.ret (.bool (gb l n x))) ad) : ae K 131 [.agg [v], .int .i64 (n : Nat), lK] U R := by
 refine Jt ?_
 unfold Js
 have xV := (dx.1 hx).1
 rw [eC rfl]
 intro b3 gS
 have k3 : (U.new b3 (.box (au (.agg [v])))).box b3 = some [v] := aD
 have e1 := bj gS (x := .box (au (.agg [v])))
 generalize U.new b3 (.box (au (.agg [v]))) = bH at *
 rw [eC rfl]
 intro b4 kB
 have k4 : (bH.new b4 (.box (au (.int .i64 (n : Nat))))).box b4 = some [.int .i64 (n : Nat)] := aD
 have CI := kB.cn k3
 have e2 := e1.new kB (x := .box (au (.int .i64 (n : Nat))))
 have k3 := (bj kB (x := .box (au (.int .i64 (n : Nat))))).bf k3
 generalize bH.new b4 (.box (au (.int .i64 (n : Nat)))) = bJ at *
 rw [cw]
 intro b6 nv
 have k6 : (bJ.new b6 (.box [.bool false])).box b6 = some [.bool false] := aD
 have n36 := nv.cn k3
 have Oi := nv.cn k4
 have f6 : U.live b6 = none := e2.fresh nv.1
 have e3 := e2.new nv (x := .box [.bool false])
 have k3 := (bj nv (x := .box [.bool false])).bf k3
 have k4 := (bj nv (x := .box [.bool false])).bf k4
 generalize bJ.new b6 (.box [.bool false]) = c7 at *
 simp only [aU, ah, cD]
 refine eW k3 rfl ?_
 refine eW k4 rfl ?_
 refine Hc hv hx fun r => ?_
 rw [zF]
 refine ⟨by simp [bD], ?_⟩
 have BR : (bD x ++ r).take 6 = bD x := by simp [bD]
 rw [BR, cw]
 intro b7 p9
 have k7 : (c7.new b7 (.box [AV.int .u8 0, AV.str [], AV.int .i64 0, AV.int .i64 0, AV.int .i64 0, AV.int .i64 0])).box b7 = some [AV.int .u8 0, AV.str [], AV.int .i64 0, AV.int .i64 0, AV.int .i64 0, AV.int .i64 0] := aD
 have n37 := p9.cn k3
 have n47 := p9.cn k4
 have n67 := p9.cn k6
 have f7 : U.live b7 = none := e3.fresh p9.1
 have e4 := e3.new p9 (x := .box [AV.int .u8 0, AV.str [], AV.int .i64 0, AV.int .i64 0, AV.int .i64 0, AV.int .i64 0])
 have en := bj p9 (x := .box [AV.int .u8 0, AV.str [], AV.int .i64 0, AV.int .i64 0, AV.int .i64 0, AV.int .i64 0])
 have k3 := en.bf k3
 have k4 := en.bf k4
 have k6 := en.bf k6
 clear en
 generalize c7.new b7 (.box [AV.int .u8 0, AV.str [], AV.int .i64 0, AV.int .i64 0, AV.int .i64 0, AV.int .i64 0]) = cH at *
 rw [cF k7]
 refine ⟨⟨rfl, rfl, by simp [bD]⟩, ?_⟩
 have j7 : (cH.set b7 (.box (aw [AV.int .u8 0, AV.str [], AV.int .i64 0, AV.int .i64 0, AV.int .i64 0, AV.int .i64 0] 0 (au (.agg (bD x)))))).box b7 = some (bD x) := by rw [aR]; rfl
 have k3 : (cH.set b7 (.box (aw [AV.int .u8 0, AV.str [], AV.int .i64 0, AV.int .i64 0, AV.int .i64 0, AV.int .i64 0] 0 (au (.agg (bD x)))))).box b3 = some [v] := by rw [aE n37]; exact k3
 have k4 : (cH.set b7 (.box (aw [AV.int .u8 0, AV.str [], AV.int .i64 0, AV.int .i64 0, AV.int .i64 0, AV.int .i64 0] 0 (au (.agg (bD x)))))).box b4 = some [.int .i64 (n : Nat)] := by rw [aE n47]; exact k4
 have k6 : (cH.set b7 (.box (aw [AV.int .u8 0, AV.str [], AV.int .i64 0, AV.int .i64 0, AV.int .i64 0, AV.int .i64 0] 0 (au (.agg (bD x)))))).box b6 = some [.bool false] := by rw [aE n67]; exact k6
 have e5 := e4.set f7 (x := .box (aw [AV.int .u8 0, AV.str [], AV.int .i64 0, AV.int .i64 0, AV.int .i64 0, AV.int .i64 0] 0 (au (.agg (bD x)))))
 generalize cH.set b7 (.box (aw [AV.int .u8 0, AV.str [], AV.int .i64 0, AV.int .i64 0, AV.int .i64 0, AV.int .i64 0] 0 (au (.agg (bD x))))) = dy at *
 clear k7 gS kB nv p9 e1 e2 e3 e4
 refine eW j7 rfl ?_
 rw [look_ok, ah]
 have ret : ∀ (q : Bool) (ad : St), cm U ad -> (∃ y, ad.box b6 = some [y]) -> gb l n x = q -> (aF (some (false, 1)) (.box b6 0) (.bool q) ad).wp K ad (fun _ U => bA (some (false, 1)) (.box b6 0) U fun r0 => al R r0 U) (aa R) := by
  intro q ad e ⟨y, hy⟩ hq
  rw [cF hy]
  refine ⟨⟨rfl, rfl, by simp⟩, ?_⟩
  rw [CW aR rfl]
  subst hq
  exact al.mk (h _ (e.set f6))
 cases hf : gw x.kind with
 | none =>
   have hq : gb l n x = false := by unfold gb; rw [hf]
   simp only [bL, List.drop, bB, Dr]
   rw [cw]
   intro b8 mL
   have k8 : (dy.new b8 (.box [AV.bool false, AV.bool false, AV.bool false, AV.ag])).box b8 = some [AV.bool false, AV.bool false, AV.bool false, AV.ag] := aD
   have SR := mL.cn k6
   have e6 := e5.new mL (x := .box [AV.bool false, AV.bool false, AV.bool false, AV.ag])
   have f8 : U.live b8 = none := e5.fresh mL.1
   have k6 := (bj mL (x := .box [AV.bool false, AV.bool false, AV.bool false, AV.ag])).bf k6
   generalize dy.new b8 (.box [AV.bool false, AV.bool false, AV.bool false, AV.ag]) = ny at *
   rw [cF k8]
   refine ⟨⟨rfl, rfl, by simp⟩, ?_⟩
   simp only [dt, ah, dR, aW, show (true == false) = false from rfl, aM, cc, mq, aJ, if_true]
   exact dq (ret false _ (e6.set f8) ⟨.bool false, by rw [aE SR]; exact k6⟩ hq)
 | some f =>
   simp only [bL, List.drop, bB]
   rw [cw]
   intro b8 mL
   have k8 : (dy.new b8 (.box [AV.bool false, AV.bool false, AV.bool false, AV.ag])).box b8 = some [AV.bool false, AV.bool false, AV.bool false, AV.ag] := aD
   have n38 := mL.cn k3
   have n48 := mL.cn k4
   have SR := mL.cn k6
   have n78 := mL.cn j7
   have e6 := e5.new mL (x := .box [AV.bool false, AV.bool false, AV.bool false, AV.ag])
   have f8 : U.live b8 = none := e5.fresh mL.1
   have en := bj mL (x := .box [AV.bool false, AV.bool false, AV.bool false, AV.ag])
   have k3 := en.bf k3
   have k4 := en.bf k4
   have k6 := en.bf k6
   have j7 := en.bf j7
   clear en
   generalize dy.new b8 (.box [AV.bool false, AV.bool false, AV.bool false, AV.ag]) = ny at *
   have rB : (j4 f).length = 4 := rfl
   rw [cF k8]
   refine ⟨⟨rfl, rfl, by simp [rB]⟩, ?_⟩
   have j8 : (ny.set b8 (.box (aw [AV.bool false, AV.bool false, AV.bool false, AV.ag] 0 (au (.agg (j4 f)))))).box b8 = some (j4 f) := by rw [aR]; rfl
   have k3 : (ny.set b8 (.box (aw [AV.bool false, AV.bool false, AV.bool false, AV.ag] 0 (au (.agg (j4 f)))))).box b3 = some [v] := by rw [aE n38]; exact k3
   have k4 : (ny.set b8 (.box (aw [AV.bool false, AV.bool false, AV.bool false, AV.ag] 0 (au (.agg (j4 f)))))).box b4 = some [.int .i64 (n : Nat)] := by rw [aE n48]; exact k4
   have k6 : (ny.set b8 (.box (aw [AV.bool false, AV.bool false, AV.bool false, AV.ag] 0 (au (.agg (j4 f)))))).box b6 = some [.bool false] := by rw [aE SR]; exact k6
   have j7 : (ny.set b8 (.box (aw [AV.bool false, AV.bool false, AV.bool false, AV.ag] 0 (au (.agg (j4 f)))))).box b7 = some (bD x) := by rw [aE n78]; exact j7
   have e7 := e6.set f8 (x := .box (aw [AV.bool false, AV.bool false, AV.bool false, AV.ag] 0 (au (.agg (j4 f)))))
   generalize ny.set b8 (.box (aw [AV.bool false, AV.bool false, AV.bool false, AV.ag] 0 (au (.agg (j4 f))))) = gz at *
   clear k8 mL e5 e6
   have hQ : gb l n x = (decide (1 <= x.size /\ x.size <= (l.length : Int) - n) && (kz x f && ((fm l ((n : Int) + x.size) l.length (n + 1)).all (fun k => decide (1 <= a8 l k /\ (k : Int) + a8 l k <= n + x.size)) &&
    (decide (((behind l (n + 1) (fm l ((n : Int) + x.size) l.length (n + 1)) : Nat) : Int) = n + x.size) && mI (fh l (fm l ((n : Int) + x.size) l.length (n + 1))) f.kids)))) := by unfold gb; rw [hf]
   simp only [dt, ah, cq, aW, fK, aM, bZ, aC]
   have hlen : bU (some false) v = .val (.int .i64 l.length) := hv.len
   refine eA (cI k3 rfl ?_)
   rw [hlen, aC]
   refine cI k4 rfl ?_
   rw [dP, db, fq, aC]
   refine ⟨aX (by omega) (by omega), ?_⟩
   refine eA (cI j7 rfl (jX (lQ _ _ _) ?_))
   simp only [dt, aC, aJ, bu, if_false, ah]
   have bad : gb l n x = false -> (aF (some (false, 1)) (.box b6 0) (.bool false) gz).wp K gz (fun _ U => bA (some (false, 1)) (.box b6 0) U fun r0 => al R r0 U) (aa R) := fun hq => ret false _ e7 ⟨_, k6⟩ hq
   by_cases hw : 1 <= x.size /\ x.size <= (l.length : Int) - n
   rotate_left
   · simp only [hw, dz, dR, aW, show (true == false) = false from rfl, aM, cc, mq, aJ, if_true, ah]
     exact dq (bad (by rw [hQ, decide_eq_false hw]; rfl))
   rw [decide_eq_true hw, Bool.true_and] at hQ
   simp only [hw, cX, cq, aW, fK, aM, bZ]
   simp only [and_self, cX, cq, aW, fK, aM, bZ]
   refine eA (cI j8 rfl (eA (cI j7 rfl ?_)))
   rw [qF, aC, Bw, aC]
   have hwt : (!decide (x.text = w_)) = decide (x.text ≠ []) := by
    by_cases h : x.text = [] <;> simp [h, w_]
   rw [hwt]
   simp only [aJ, bu, if_false, ah]
   have p8 : kz x f = ((f.text == decide (x.text ≠ [])) && ((!f.text || lB x.text) && (kY x.n && (kY x.m && ((f.n || decide (x.n = 0)) && (f.m || decide (x.m = 0))))))) := by
    unfold kz
    have e0 : (x.text != []) = decide (x.text ≠ []) := by by_cases h : x.text = [] <;> simp [h]
    have e1 : (x.n == 0) = decide (x.n = 0) := by by_cases h : x.n = 0 <;> simp [h]
    have e2 : (x.m == 0) = decide (x.m = 0) := by by_cases h : x.m = 0 <;> simp [h]
    rw [e0, e1, e2]; simp only [Bool.and_assoc]
   cases ht : (f.text != decide (x.text ≠ [])) with
   | true =>
     simp only [aW, show (true == false) = false from rfl, aM, cc, mq, aJ, if_true, ah]
     refine dq (bad ?_)
     have : (f.text == decide (x.text ≠ [])) = false := by revert ht; cases f.text <;> cases decide (x.text ≠ []) <;> simp
     rw [hQ, p8, this]; rfl
   | false =>
   have pz : (f.text == decide (x.text ≠ [])) = true := by revert ht; cases f.text <;> cases decide (x.text ≠ []) <;> simp
   rw [pz, Bool.true_and] at p8
   simp only [aW, fK, aM, bZ]
   refine eA (cI j8 rfl ?_)
   simp only [aC]
   have nm : ∀ (A : Prop), ((!f.text || lB x.text) = true -> A) ->
    aj K (aI (.bool f.text) true) (af (some 1) (.box b7 0)) (fun wF =>
    aj K (aI (.bool f.text) true) (aq (some (false, 1)) wF gz) (fun v53 =>
    aj K (aI (.bool f.text) true) (aA.enter 208 [v53]) (fun rX =>
    aj K (aI (.bool f.text) true) (gM .not rX) (fun pQ =>
    ai K (bF (.bool f.text) pQ (.bool false)) (fun rY =>
    az (if false = true then AV.bool true else rY) ((aF (some (false, 1)) (.box b6 0) (.bool false) gz).wp K gz (fun _ U => bA (some (false, 1)) (.box b6 0) U fun r0 => al R r0 U) (aa R)) A))))) := by
    intro A hA
    cases R6 : f.text with
    | false =>
      simp only [aW, show (false == true) = false from rfl, aM, cc, aJ, bu, if_false, aC, ah]
      exact dF (hA (by rw [R6]; rfl))
    | true =>
      simp only [aW, fK, aM, bZ]
      refine eA (cI j7 rfl (jX (GB _ fY) ?_))
      simp only [dt, aC, aJ, if_true, bu, if_false, ah]
      cases z8 : lB x.text with
      | true => exact dF (hA (by rw [R6, z8]; rfl))
      | false => exact dq (bad (by rw [hQ, p8, R6, z8]; rfl))
   refine nm _ fun z8 => ?_
   clear nm
   rw [z8, Bool.true_and] at p8
   simp only [aU, ah, cD]
   refine eW j7 rfl ((lQ _ _ _).go ?_)
   have xR : ∀ a : Int, decide (0 <= a /\ a <= 1000000) = kY a := fun _ => rfl
   rw [xR]
   simp only [dt, ah]
   cases hN : kY x.n with
   | false =>
     simp only [dR, aW, show (true == false) = false from rfl, aM, cc, mq, aJ, if_true, ah]
     exact dq (bad (by rw [hQ, p8, hN]; rfl))
   | true =>
   rw [hN, Bool.true_and] at p8
   simp only [cq, aW, fK, aM, bZ, aC]
   refine cI j7 rfl (jX (lQ _ _ _) ?_)
   rw [xR]
   simp only [dt, aC, aJ, bu, if_false, ah]
   cases hM : kY x.m with
   | false =>
     simp only [dR, aW, show (true == false) = false from rfl, aM, cc, mq, aJ, if_true, ah]
     exact dq (bad (by rw [hQ, p8, hM]; rfl))
   | true =>
   rw [hM, Bool.true_and] at p8
   simp only [cq, aW, fK, aM, bZ, aC]
   refine cI j8 rfl ?_
   simp only [dt, aC]
   have OV : ∀ (kq : AV -> Prop), ((f.n || decide (x.n = 0)) = true -> kq (.bool false)) -> ((f.n || decide (x.n = 0)) = false -> kq (.bool true)) ->
    aj K (aI (.bool !f.n) true) (.val (.box b7 2)) (fun La => aj K (aI (.bool !f.n) true) (aq (some (false, 1)) La gz) fun wH => aj K (aI (.bool !f.n) true) (av .neq (BT.mk false false false none false) true wH (AV.int .i64 0)) fun v75 =>
     ai K (bF (.bool !f.n) v75 (.bool false)) kq) := by
    intro kq h1 h2
    cases hfn : f.n with
    | true =>
      simp only [cq, aW, show (false == true) = false from rfl, aM, cc, aJ, bu, if_false, aC]
      exact h1 (by rw [hfn]; rfl)
    | false =>
      simp only [dR, aW, fK, aM, bZ, aC]
      refine cI j7 rfl ?_
      rw [cO, aC]
      simp only [aJ, if_true, aC]
      by_cases h0 : x.n = 0
      · simp only [h0, cX, cq]; exact h1 (by simp [h0])
      · simp only [h0, dz, dR]; exact h2 (by rw [hfn]; simp [h0])
   have OU : ∀ (kq : AV -> Prop), ((f.m || decide (x.m = 0)) = true -> kq (.bool false)) -> ((f.m || decide (x.m = 0)) = false -> kq (.bool true)) ->
    aj K (aI (.bool !f.m) true) (.val (.box b7 3)) (fun La => aj K (aI (.bool !f.m) true) (aq (some (false, 1)) La gz) fun wH => aj K (aI (.bool !f.m) true) (av .neq (BT.mk false false false none false) true wH (AV.int .i64 0)) fun v75 =>
     ai K (bF (.bool !f.m) v75 (.bool false)) kq) := by
    intro kq h1 h2
    cases hfn : f.m with
    | true =>
      simp only [cq, aW, show (false == true) = false from rfl, aM, cc, aJ, bu, if_false, aC]
      exact h1 (by rw [hfn]; rfl)
    | false =>
      simp only [dR, aW, fK, aM, bZ, aC]
      refine cI j7 rfl ?_
      rw [cO, aC]
      simp only [aJ, if_true, aC]
      by_cases h0 : x.m = 0
      · simp only [h0, cX, cq]; exact h1 (by simp [h0])
      · simp only [h0, dz, dR]; exact h2 (by rw [hfn]; simp [h0])
   refine OV _ (fun hn => ?_) fun hn => ?_
   rotate_left
   · simp only [bu, if_false, aW, show (true == false) = false from rfl, aM, cc, mq, aJ, if_true, ah]
     exact dq (bad (by rw [hQ, p8, hn]; rfl))
   rw [hn, Bool.true_and] at p8
   simp only [bu, if_false, aW, fK, aM, bZ, aC]
   refine cI j8 rfl ?_
   simp only [dt, aC]
   refine OU _ (fun hm => ?_) fun hm => ?_
   rotate_left
   · simp only [bu, if_false, aJ, if_true, ah]
     exact dq (bad (by rw [hQ, p8, hm]; rfl))
   rw [hm] at p8
   rw [p8, Bool.true_and] at hQ
   simp only [bu, if_false, aJ, ah]
   refine dF ?_
   clear OV OU p8 bad
   rw [cw]
   intro oH LR
   have H7 : iX gz [(b3, [v]), (b4, [.int .i64 (n : Nat)]), (b6, [.bool false]), (b7, bD x), (b8, j4 f)] :=
    (((((show iX gz [] from fun p hp => by cases hp).cons j8).cons j7).cons k6).cons k4).cons k3
   have Am : (gz.new oH (.box [.ag])).box oH = some [.ag] := aD
   have Yd := H7.fresh LR
   have H8 := H7.vR (bj LR (x := .box [.ag]))
   generalize gz.new oH (.box [.ag]) = lS at *
   clear LR H7
   refine eW (H8 (b4, [.int .i64 (n : Nat)]) (by simp)) rfl ?_
   rw [c8]
   refine ⟨aX (by omega) (by omega), ?_⟩
   rw [cw]
   intro eX nD
   have Oc : (lS.new eX (.box [.int .i64 0])).box eX = some [.int .i64 0] := aD
   have Sr := (H8.cons Am).fresh nD
   have H9 := H8.vR (bj nD (x := .box [.int .i64 0]))
   have Am := (bj nD (x := .box [.int .i64 0])).bf Am
   generalize lS.new eX (.box [.int .i64 0]) = nr at *
   clear nD H8
   rw [cF Oc]
   refine ⟨⟨rfl, rfl, by simp⟩, ?_⟩
   have NW : ∀ p ∈ [(b3, [v]), (b4, [.int .i64 (n : Nat)]), (b6, [.bool false]), (b7, bD x), (b8, j4 f)], p.1 ≠ eX := fun p hp => Sr p (List.mem_cons_of_mem _ hp)
   have Gs : oH ≠ eX := Sr (oH, _) (List.mem_cons_self ..)
   have Qn := H9.set NW (y := .box (aw [AV.int .i64 0] 0 (au (.int .i64 ((n : Int) + 1)))))
   have Am : (nr.set eX (.box (aw [AV.int .i64 0] 0 (au (.int .i64 ((n : Int) + 1)))))).box oH = some [.ag] := by rw [aE Gs]; exact Am
   have Oc : (nr.set eX (.box (aw [AV.int .i64 0] 0 (au (.int .i64 ((n : Int) + 1)))))).box eX = some [.int .i64 ((n : Int) + 1)] := by rw [aR]; rfl
   generalize nr.set eX (.box (aw [AV.int .i64 0] 0 (au (.int .i64 ((n : Int) + 1))))) = tn at *
   clear H9
   rw [nZ (Qn (b3, [v]) (by simp))]
   refine ⟨by simp, ?_⟩
   refine eW (Qn (b4, [.int .i64 (n : Nat)]) (by simp)) rfl ?_
   refine Cz (n := n) (x := x) hv hx (aX (by omega) (by omega)) fun bn be bt Zf d1 d2 d3 f1 f2 f3 q1 q2 q3 ud => ?_
   simp only [bz]
   have Zn := (((Qn.vR ud).cons q3).cons q2).cons q1
   have Am := ud.bf Am
   have Yv := ud.bf Oc
   have SW : ∀ b y, tn.box b = some y -> b ≠ bn /\ b ≠ be /\ b ≠ bt := fun b y hb =>
    ⟨fun e => bR hb (e ▸ f1), fun e => bR hb (e ▸ f2), fun e => bR hb (e ▸ f3)⟩
   have VA : ∀ p ∈ [(bn, [AV.int .i64 (n : Nat)]), (be, [.int .i64 ((n : Int) + x.size)]), (bt, [v]), (b3, [v]), (b4, [.int .i64 (n : Nat)]), (b6, [.bool false]), (b7, bD x), (b8, j4 f)], p.1 ≠ oH := by
    intro p hp
    have g := SW oH _ (by assumption)
    simp only [dA] at hp
    rcases hp with rfl | rfl | rfl | hp
    · exact g.1.symm
    · exact g.2.1.symm
    · exact g.2.2.symm
    · exact Yd p (by simpa using hp)
   have VB : ∀ p ∈ [(bn, [AV.int .i64 (n : Nat)]), (be, [.int .i64 ((n : Int) + x.size)]), (bt, [v]), (b3, [v]), (b4, [.int .i64 (n : Nat)]), (b6, [.bool false]), (b7, bD x), (b8, j4 f)], p.1 ≠ eX := by
    intro p hp
    have g := SW eX _ Oc
    simp only [dA] at hp
    rcases hp with rfl | rfl | rfl | hp
    · exact g.1.symm
    · exact g.2.1.symm
    · exact g.2.2.symm
    · exact NW p (by simpa using hp)
   generalize HU : [(bn, [AV.int .i64 (n : Nat)]), (be, [.int .i64 ((n : Int) + x.size)]), (bt, [v]), (b3, [v]), (b4, [.int .i64 (n : Nat)]), (b6, [.bool false]), (b7, bD x), (b8, j4 f)] = bs at *
   have mem : ∀ {ad : St}, iX ad bs -> ad.box bn = some [.int .i64 (n : Nat)] /\ ad.box be = some [.int .i64 ((n : Int) + x.size)] /\ ad.box bt = some [v] /\ ad.box b3 = some [v] /\ ad.box b4 = some [.int .i64 (n : Nat)] /\ ad.box b6 = some [.bool false] /\ ad.box b7 = some (bD x) /\ ad.box b8 = some (j4 f) := by
    intro ad hH
    subst HU
    exact ⟨hH (bn, [.int .i64 (n : Nat)]) (by simp), hH (be, [.int .i64 ((n : Int) + x.size)]) (by simp), hH (bt, [v]) (by simp), hH (b3, [v]) (by simp), hH (b4, [.int .i64 (n : Nat)]) (by simp), hH (b6, [.bool false]) (by simp), hH (b7, bD x) (by simp), hH (b8, j4 f) (by simp)⟩
   have WR : ∀ {ad : St} {o : Nat} {L : ey}, iX ad bs -> ad.loop o = some L -> ∀ p ∈ bs, p.1 ≠ o := fun hH ho p hp => cz (hH p hp) ho
   refine yl (fun ks ad => iX ad bs /\ (∃ vk, ad.box oH = some [vk] /\ fM U ad vk 5 1 ks.length (j6 (fh l ks))) /\ ad.box eX = some [.int .i64 ((behind l (n + 1) ks : Nat) : Int)] /\ ks.all (fun k => decide (1 <= a8 l k /\ (k : Int) + a8 l k <= n + x.size)) = true) (fun ad => ad.box b6 = some [.bool false] /\ gb l n x = false) hv xV (by omega) (by omega)
    (fun ks ad hI => ⟨(mem hI.1).1, (mem hI.1).2.1, (mem hI.1).2.2.1⟩) (fun ks ad o L L' hI ho => ?_) (fun ks ad o L hI ho => ?_) (fun ad o L L' hJ ho => ?_) (fun ks lr y ad o L1 q hI hy aK jy hnk NO wV hL hnx hrx => ?_) (fun ks ad o L kD hI hL => ?_) (fun ad o L hJ hL => ?_) ⟨Zn, ⟨_, Am, by simpa [fh, j6] using fM.nil (lL _)⟩, by simpa [behind] using Yv, rfl⟩
   · obtain ⟨hH, ⟨vk, oJ, vZ⟩, tz, bK⟩ := hI
     exact ⟨hH.set (WR hH ho), ⟨vk, by rw [aE (cz oJ ho)]; exact oJ, vZ.loop ho (lL _)⟩, by rw [aE (cz tz ho)]; exact tz, bK⟩
   · obtain ⟨hH, ⟨vk, oJ, vZ⟩, tz, bK⟩ := hI
     have e := bj ho (x := .loop L)
     exact ⟨hH.vR e, ⟨vk, e.bf oJ, vZ.mono e⟩, e.bf tz, bK⟩
   · exact ⟨by rw [aE (cz hJ.1 ho)]; exact hJ.1, hJ.2⟩
   · obtain ⟨hH, ⟨vk, oJ, vZ⟩, tz, bK⟩ := hI
     obtain ⟨mn, me, mt, m3, m4, m6, m7, m8⟩ := mem hH
     refine cI oJ rfl ?_
     refine cI m3 rfl ?_
     refine sU hv hy fun r => ?_
     simp only [cQ, aC, dU, mY, bD, jh, fP]
     refine VM rfl rfl ?_
     refine Up vZ (m := 1) (l2 := [.int .u8 y.kind]) rfl rfl (by omega) (by omega) fun bJ v' g2 k2 => ?_
     have oU : ∀ b z, ad.box b = some z -> bJ.live b = ad.live b /\ bJ.box b = some z := fun b z hb => by
      cases um : ad.live b with
      | none => exact absurd um (bR hb)
      | some w =>
        have := k2 b w (fun n' l' xY => by
         rcases vZ.g with ⟨_, _, h3⟩ | ⟨τ, r1, r2, _⟩
         · rw [h3] at xY; cases xY
         · rw [r1] at xY; cases xY; exact eU hb r2 rfl) um
        exact ⟨this, by rw [fZ (this.trans um.symm)]; exact hb⟩
     refine ⟨fun b hb => ?_, ?_⟩
     · simp only [bV, iI, gH, eH, dA, List.not_mem_nil, or_false] at hb
       rcases hb with rfl | rfl
       · exact (oU _ _ m3).1
       · exact (oU _ _ oJ).1
     have Wx : iX bJ bs := fun p hp => (oU _ _ (hH p hp)).2
     have FP := (oU _ _ tz).2
     have zg := (oU _ _ oJ).2
     have py : v'.cC = true /\ au v' = [v'] := by
      rcases g2.g with ⟨h0, _, _⟩ | ⟨τ, r1, _, _⟩
      · omega
      · rw [r1]; exact ⟨rfl, rfl⟩
     rw [cF zg]
     refine ⟨⟨py.1, by rw [py.2]; rfl, by simp⟩, ?_⟩
     have Wy := Wx.set VA (y := .box (aw [vk] 0 (au v')))
     have LO : (bJ.set oH (.box (aw [vk] 0 (au v')))).box eX = some [.int .i64 ((behind l (n + 1) ks : Nat) : Int)] := by rw [aE Gs.symm]; exact FP
     have XT : (bJ.set oH (.box (aw [vk] 0 (au v')))).box oH = some [v'] := by rw [aR, py.2]; rfl
     have g3 : fM U (bJ.set oH (.box (aw [vk] 0 (au v')))) v' 5 1 (ks.length + 1) (j6 (fh l ks) ++ [.int .u8 y.kind]) := by
      refine ⟨?_, g2.z, g2.t, lL _⟩
      rcases g2.g with g | ⟨τ, r1, r2, r3⟩
      · exact .inl g
      · exact .inr ⟨τ, r1, by rw [iy (eU zg r2).symm]; exact r2, r3⟩
     have vV : (bJ.set oH (.box (aw [vk] 0 (au v')))).loop o = some L1 := by
      obtain ⟨_, kl⟩ := zT vZ.g k2
      rw [fE]; exact kl hL
      rw [dL, if_neg (cz zg (kl hL)).symm]
     generalize bJ.set oH (.box (aw [vk] 0 (au v'))) = c7 at *
     clear g2 k2 oU Wx FP zg hH oJ vZ tz mn me mt m3 m4 m6 m7 m8
     obtain ⟨mn, me, mt, m3, m4, m6, m7, m8⟩ := mem Wy
     refine cI m4 rfl ?_
     refine cI m7 rfl ?_
     rw [o0]
     refine ⟨aX (by omega) (by omega), ?_⟩
     have aai := (dx.1 hy).1
     rw [dP, db, fq, aC]
     refine ⟨aX (by omega) (by omega), ?_⟩
     refine cI m3 rfl ?_
     refine sU hv hy fun r => ?_
     simp only [cQ, aC, bD, jh, List.drop, mY, fP]
     refine jX (lQ _ _ _) ?_
     simp only [dt, aC]
     have Cg : a8 l lr = y.size.toNat := by unfold a8; rw [hy]; rfl
     by_cases SB : 1 <= y.size /\ y.size <= (n : Int) + x.size - lr
     · simp only [SB, and_self, cX, cq]
       refine dF ?_
       refine eW m3 rfl ?_
       refine Hc hv hy fun r => ?_
       simp only [cQ, ah, bD, jh, List.drop, ox, bB, c8]
       refine ⟨aX (by omega) (by omega), ?_⟩
       rw [cF LO]
       refine ⟨⟨rfl, rfl, by simp⟩, ?_⟩
       refine hnx _ ⟨Wy.set VB, ⟨v', by rw [aE Gs]; exact XT, ?_⟩, ?_, ?_⟩ (by omega) ?_
       · have : fM U (c7.set eX (.box (aw [.int .i64 ((behind l (n + 1) ks : Nat) : Int)] 0 (au (.int .i64 ((lr : Int) + y.size)))))) v' 5 1 (ks.length + 1) (j6 (fh l ks) ++ [.int .u8 y.kind]) := by
          refine ⟨?_, g3.z, g3.t, lL _⟩
          rcases g3.g with g | ⟨τ, r1, r2, r3⟩
          · exact .inl g
          · exact .inr ⟨τ, r1, by rw [iy (eU LO r2).symm]; exact r2, r3⟩
         rw [CA hy]
         simpa [j6] using this
       · rw [aR, vO, Cg]
         have : ((lr + y.size.toNat : Nat) : Int) = (lr : Int) + y.size := by omega
         rw [this]; rfl
       · rw [List.all_append, bK]
         simp only [List.all_cons, List.all_nil, Bool.and_true, Bool.true_and, dD, Cg]
         omega
       · rw [fE]; exact vV
         rw [dL, if_neg (cz LO vV).symm]
     · simp only [SB, dz, dR]
       refine dq ?_
       rw [cF m6]
       refine ⟨⟨rfl, rfl, by simp⟩, ?_⟩
       refine hrx _ ⟨by rw [aR]; rfl, ?_⟩ ?_
       · obtain ⟨r', pw⟩ := wV
         rw [hQ, pw, List.all_append, List.all_cons]
         have : decide (1 <= a8 l lr /\ (lr : Int) + a8 l lr <= n + x.size) = false := by
          rw [decide_eq_false_iff_not, Cg]; omega
         rw [this]; simp
       · rw [fE]; exact vV
         rw [dL, if_neg (cz m6 vV).symm]
   · obtain ⟨hH, ⟨vk, oJ, vZ⟩, tz, bK⟩ := hI
     have ZI := hH.del (WR hH hL)
     have FP : (ad.del o).box eX = some [.int .i64 ((behind l (n + 1) ks : Nat) : Int)] := by rw [iq (cz tz hL)]; exact tz
     have zg : (ad.del o).box oH = some [vk] := by rw [iq (cz oJ hL)]; exact oJ
     obtain ⟨mn, me, mt, m3, m4, m6, m7, m8⟩ := mem ZI
     have aaa : ks.length <= l.length := by rw [kD]; exact wX _ _ _ _
     have um : behind l (n + 1) ks <= n + x.size.toNat + n + 1 := by
      clear hQ
      rcases List.eq_nil_or_concat ks with h0 | ⟨ks', k, h0⟩
      · rw [h0]; simp [behind]
        try omega
      · rw [h0, List.concat_eq_append, vO]
        rw [h0, List.concat_eq_append, List.all_append, bM] at bK
        have := bK.2
        simp only [List.all_cons, List.all_nil, Bool.and_true, dD] at this
        omega
     refine eW FP rfl ?_
     refine eW m4 rfl ?_
     refine eW m7 rfl ?_
     rw [c8]
     refine ⟨aX (by omega) (by omega), ?_⟩
     refine G9 ?_
     rw [<- kD] at hQ
     rw [bK, Bool.true_and] at hQ
     by_cases rz : ((behind l (n + 1) ks : Nat) : Int) = n + x.size
     · rw [decide_eq_true rz, Bool.true_and] at hQ
       simp only [rz, cX, aW, fK, aM, bZ, aU, aC, cD]
       refine cI zg rfl ?_
       refine cI m8 rfl ?_
       refine dq ?_
       have py : eN vk (fh l ks).length (j6 (fh l ks)) := by
        have : (fh l ks).length = ks.length := by simp [fh]
        rw [this]; exact vZ.sl
       have mN := BJ hf
       refine RE py (by simp [fh]; omega) mN.1 mN.2 fun nr e9 => ?_
       simp only [bz, aJ, if_true, ah]
       exact ret _ nr (lL _) ⟨_, e9.bf m6⟩ hQ
     · rw [decide_eq_false rz, Bool.false_and] at hQ
       simp only [rz, dz, aW, show (false == true) = false from rfl, aM, cc, aJ, bu, if_false, ah]
       refine dF ?_
       exact ret false _ (lL _) ⟨_, m6⟩ hQ
   · have h6 : (ad.del o).box b6 = some [.bool false] := by rw [iq (cz hJ.1 hL)]; exact hJ.1
     rw [CW h6 rfl]
     refine al.mk ?_
     have := h (ad.del o) (lL _)
     rw [hJ.2] at this; exact this
end Go.Rip
namespace Go.Rip
open Go.Proofs Go.RowKit
theorem Vh (ad : St) : cm (br ⟨.e, 0⟩) ad := fun b x h => by cases h
theorem IK {v : AV} {l : List Nd} {n : Nat} {x : Nd} (hv : eN v l.length (bm l)) (hc : closed v = true) (hx : l[n]? = some x) (hl : l.length <= 10000) (fY : x.text.length <= 3000) : Pure K 131 [.agg [v], .int .i64 (n : Nat), lK] (.bool (gb l n x)) :=
 Pure.of (by simp [bS, closed, hc, show closed lK = true by kernel_rfl]) rfl (fun U => rfl) fun R hR => PQ hv hx hl fY Vh fun ad _ => hR ad
def gZ (l : List Nd) : Bool := match l[0]? with | none => false | some x0 => decide (x0.kind = 1) && (decide (x0.size = ((l.length : Nat) : Int)) && (List.range l.length).all fun n => match l[n]? with | some x => gb l n x | none => true)
theorem o1 {l : List Nd} {x0 : Nd} (h0 : l[0]? = some x0) : gZ l = true ↔ (x0.kind = 1 /\ x0.size = l.length /\ ∀ n x, l[n]? = some x -> gb l n x = true) := by
 unfold gZ
 rw [h0]
 simp only [bM, dD, eh, List.mem_range]
 refine and_congr_right fun _ => and_congr_right fun _ => ⟨fun h n x hx => ?_, fun h n hn => ?_⟩
 · have := h n (dx.1 hx).1
   rw [hx] at this; exact this
 · obtain ⟨x, hx⟩ : ∃ x, l[n]? = some x := ⟨l[n], by simp [hn]⟩
   rw [hx]; exact h n x hx
theorem Jc {l : List Nd} {n : Nat} {x : Nd} (hx : l[n]? = some x) (h : gb l n x = false) : gZ l = false := by
 cases h0 : l[0]? with
 | none => unfold gZ; rw [h0]
 | some x0 =>
   cases hr : gZ l with
   | false => rfl
   | true => rw [((o1 h0).1 hr).2.2 n x hx] at h; cases h
theorem GJ {v : AV} {l : List Nd} (hv : eN v l.length (bm l)) (hc : closed v = true) (hl : l.length <= 10000) (fY : ∀ x ∈ l, x.text.length <= 3000) : Pure K 68 [.agg [v]] (.bool (gZ l)) := by
 refine Pure.of (by simp [bS, closed, hc]) rfl (fun U => rfl) fun R hR => ?_
 refine MI ?_
 unfold OD
 rw [eC rfl]
 intro b1 fC
 have m1 : ((br ⟨.e, 0⟩).new b1 (.box (au (.agg [v])))).box b1 = some [v] := aD
 generalize (br _).new b1 _ = ay at *
 clear fC
 refine eA (eA (cI m1 rfl ?_))
 rw [hv.len, aC, bl, aC]
 cases h0 : l[0]? with
 | none =>
   have oI : l.length = 0 := by simpa using h0
   have hq : gZ l = false := by unfold gZ; rw [h0]
   simp only [oI, Int.natCast_zero, cX, aW, show (true == false) = false from rfl, aM, cc, aJ, if_true, mq, aC]
   exact dq (al.mk (by rw [<- hq]; exact hR _))
 | some x0 =>
   have oI : 0 < l.length := (dx.1 h0).1
   have bW : ¬ ((l.length : Int) = 0) := by omega
   have hQ : gZ l = (decide (x0.kind = 1) && (decide (x0.size = ((l.length : Nat) : Int)) && (List.range l.length).all fun n => match l[n]? with | some x => gb l n x | none => true)) := by unfold gZ; rw [h0]
   simp only [bW, dz, aW, fK, aM, bZ]
   refine eA (eA (cI m1 rfl ?_))
   refine sU (i := 0) hv h0 fun r => ?_
   simp only [cQ, aC, dU, mY, bD, jh, fP, cO, aJ, bu, if_false]
   by_cases hk : x0.kind = 1
   rotate_left
   · simp only [hk, dz, dR, aW, show (true == false) = false from rfl, aM, cc, aJ, if_true, mq, aC]
     exact dq (al.mk (by rw [show false = gZ l by rw [hQ]; simp [hk]]; exact hR _))
   simp only [hk, cX, cq, aW, fK, aM, bZ]
   refine eA (eA (cI m1 rfl ?_))
   refine sU (i := 0) hv h0 fun r => ?_
   simp only [cQ, aC, List.drop, mY, bD, jh, fP]
   refine eA (eA (cI m1 rfl ?_))
   rw [hv.len, aC, cO, aC]
   simp only [aJ, bu, if_false, aC]
   by_cases hs : x0.size = l.length
   rotate_left
   · simp only [hs, dz, dR]
     exact dq (al.mk (by rw [show false = gZ l by rw [hQ]; simp [hk, hs]]; exact hR _))
   simp only [hs, cX, cq]
   refine dF (xG.go ?_)
   simp only [aU, ah, cD]
   refine eW m1 rfl ?_
   rw [hv.len, ah]
   refine ⟨fun m v1 v3 hC v37 ad => ∃ i : Nat, m = l.length - i /\ i <= l.length /\ v1 = .box b1 0 /\ v3 = lK /\ hC = .int .i64 l.length /\ v37 = .int .i64 (i : Nat) /\ ad = ay /\ ∀ j x, j < i -> l[j]? = some x -> gb l j x = true, ⟨_, 0, rfl, by omega, rfl, rfl, rfl, rfl, rfl, fun j x h => by omega⟩, ?_⟩
   rintro m v1 v3 hC v37 ad ⟨i, rfl, hi, rfl, rfl, rfl, rfl, rfl, bK⟩
   simp only [bP, ah]
   refine ir (fun aK => ?_) fun hY => ?_
   · have aK : i < l.length := by omega
     obtain ⟨x, hx⟩ : ∃ x, l[i]? = some x := ⟨l[i], by simp [aK]⟩
     rw [nZ m1]
     refine ⟨by simp, ?_⟩
     refine (IK hv hc hx hl (fY x (fS hx))).go ?_
     simp only [dt, ah]
     cases hq : gb l i x with
     | false => exact dq (al.mk (by rw [<- Jc hx hq]; exact hR _))
     | true =>
       refine dF ?_
       rw [c8]
       refine ⟨aX (by omega) (by omega), l.length - (i + 1), by omega, i + 1, rfl, by omega, rfl, rfl, rfl, by simp, rfl, fun j y hj hy => ?_⟩
       by_cases h : j = i
       · subst h; rw [hx] at hy; cases hy; exact hq
       · exact bK j y (by omega) hy
   · refine al.mk ?_
     have : gZ l = true := (o1 h0).2 ⟨hk, hs, fun n x hx => bK n x (by have := (dx.1 hx).1; omega) hx⟩
     rw [<- this]; exact hR _
theorem oQ {v : AV} {l : List Nd} (hv : eN v l.length (bm l)) (hc : closed v = true) (hl : l.length <= 10000) (fY : ∀ x ∈ l, x.text.length <= 3000) : Pure K 30 [.agg [v]] (.int .i64 (dI l)) := by
 refine Pure.of (by simp [bS, closed, hc]) rfl (fun U => rfl) fun R hR => ?_
 refine MB ?_
 unfold Ow
 rw [eC rfl]
 intro b1 fC
 have m1 : ((br ⟨.e, 0⟩).new b1 (.box (au (.agg [v])))).box b1 = some [v] := aD
 generalize (br _).new b1 _ = ay at *
 clear fC
 simp only [aU, ah, cD]
 refine eW m1 rfl ?_
 rw [hv.len, ah]
 simp only [eO, ah]
 refine ir (fun rC => ?_) fun hle => ?_
 · refine al.mk ?_
   have : dI l = 5 := by unfold dI; rw [if_pos (by omega)]
   rw [<- this]; exact hR _
 rw [nZ m1]
 refine ⟨by simp, ?_⟩
 refine pc [v] rfl ?_
 refine (GJ hv hc hl fY).go ?_
 simp only [dt, ah]
 have h9 : ¬ 900 < l.length := by omega
 cases hq : gZ l with
 | false =>
   refine dq (al.mk ?_)
   have : dI l = 4 := oR h9 fun h => by
    obtain ⟨t, rfl, h2, h3⟩ := h
    obtain ⟨x, r, e, _⟩ := t.mj
    have h0 : t.flat[0]? = some x := by rw [e]; rfl
    rw [(o1 h0).2 ((AB h0).2 ⟨t, rfl, h2, h3⟩)] at hq
    cases hq
   rw [<- this]; exact hR _
 | true =>
   refine dF ?_
   rw [nZ m1]
   refine ⟨by simp, ?_⟩
   cases h0 : l[0]? with
   | none => unfold gZ at hq; rw [h0] at hq; cases hq
   | some x0 =>
     have hr := (o1 h0).1 hq
     obtain ⟨t, rfl, h2, h3⟩ := (AB h0).1 hr
     have bW : t.flat ≠ [] := by intro e; rw [e] at h0; cases h0
     have da := (wq bW (by
      obtain ⟨y, r, e, _⟩ := t.mj
      rw [e] at h0 ⊢; simp at h0; subst h0; have := hr.2.1; rw [e] at this; exact this) hr.2.2)
     refine (FM hv hc (by omega) bW (fun x hx => ?_) ?_).go ?_
     · obtain ⟨n, hn, rfl⟩ := List.getElem_of_mem hx
       have := da.1.2.2 n t.flat[n] (by simp [hn])
       omega
     · have := da.1.2.1; omega
     · rw [DK]
       have LU : dI t.flat = if 60 < t.deep \/ 24 < t.kids.length then 5 else 0 := by
        rw [Hv t h9]; unfold yW; rw [if_neg (by simp [h2, h3])]
       rw [LU] at hR
       by_cases hg : 60 < t.deep \/ 24 < t.kids.length
       · rw [if_pos hg] at hR
         have : (decide (60 < t.deep) || decide (24 < t.kids.length)) = true := by simpa using hg
         rw [this]
         exact dq (al.mk (hR _))
       · rw [if_neg hg] at hR
         have : (decide (60 < t.deep) || decide (24 < t.kids.length)) = false := by simpa using hg
         rw [this]
         exact dF (al.mk (hR _))
end Go.Rip
