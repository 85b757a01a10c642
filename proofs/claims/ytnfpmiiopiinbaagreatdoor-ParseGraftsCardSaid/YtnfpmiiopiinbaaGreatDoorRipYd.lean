/- Lemmas for the proof: no conditions. -/
import Derived.Test.YtnfpmiiopiinbaaGreatDoorRipZz
import Derived.Test.YtnfpmiiopiinbaaGreatDoorRipYc
import Derived.Test.YtnfpmiiopiinbaaGreatDoorRipC
import Derived.Test.YtnfpmiiopiinbaaGreatDoorRipX
import Derived.Test.YtnfpmiiopiinbaaGreatDoorRipYb
import Derived.Test.YtnfpmiiopiinbaaGreatDoorRipAw
set_option linter.unusedVariables false
set_option linter.unusedSimpArgs false
set_option linter.loopingSimpArgs false
namespace Go.Rip
open Go.Proofs Go.RowKit
def gH (l : List Nd) (p c : Nat) (ns : List Nd) : List Nd := (fZ l p c ((ns.length : Int) - bY l p)).take p ++ ns ++ l.drop (p + bY l p)
theorem xH (l : List Nd) (p : Nat) (ns : List Nd) : gH l p p ns = l.take p ++ ns ++ l.drop (p + bY l p) := by unfold gH; rw [Ig]
theorem sy (l : List Nd) (p : Nat) (ns : List Nd) : gH l p 0 ns = ek l p ns := rfl
theorem Hm {l : List Nd} {p c q : Nat} {ns : List Nd} {y : Nd} (hq : q < p) (hp : p <= l.length) : (gH l p c ns).set q y = (((fZ l p c ((ns.length : Int) - bY l p)).set q y).take p) ++ ns ++ l.drop (p + bY l p) := by
 unfold gH
 rw [nI, List.set_append_left _ _ (by rw [List.length_take, iz]; omega), nI, List.take_set]
theorem Jd {l : List Nd} {p c q : Nat} {ns : List Nd} {x : Nd} (hq : q < p) (hp : p <= l.length) (h : (fZ l p c ((ns.length : Int) - bY l p))[q]? = some x) : (gH l p c ns)[q]? = some x := by
 unfold gH
 rw [nI, sK (by rw [List.length_take, iz]; omega), List.getElem?_take, if_pos hq, h]
theorem qf (l : List Nd) (p c : Nat) (ns : List Nd) : (gH l p c ns).length = (gH l p p ns).length := by simp [gH, iz]
theorem N2 {U : St} {R : cD -> St -> Prop} {w : AV} {L : List Nd} (hw : IE U w L) (hl : L.length <= 10000) (iW : ∀ x ∈ L, x.text.length <= 3000) (h : R (.ret (.int .i64 (fi L))) U) : af K 30 [.agg [w]] U R := by
 obtain ⟨x, hx, hs⟩ : ∃ x, [AV.agg [w]].map (resolve 5 U) = [.agg [x]] /\ Sl x L := by
  rcases hw with ⟨rfl, rfl⟩ | ⟨b, rfl, hb⟩
  · exact ⟨.al, rfl, .inl ⟨rfl, rfl, rfl⟩, rfl⟩
  · refine ⟨.vec L.length .hX (bC L), ?_, .inr ⟨_, rfl⟩, tZ L⟩
    show [AV.agg [resolve 4 U (.ms b 0 L.length 6 43)]] = _
    rw [yc hb, sM]
 exact af.GQ 5 sx (args0 := [.agg [x]]) (fun g vs hr => by rw [hx] at hr; exact hr) (by simp [bV, hs.cl]) rfl (za hs.s hs.c hl iW) h
theorem Wf {b n q : Nat} {kq : AV -> Prop} (hj : q < n) (h : kq (.box b (q * 6))) : aw K (aF (some (43, 6)) none (.ms b 0 n 6 43) (.int .i64 (q : Nat))) kq := by
 rw [zX, dR, cr]
 exact ⟨⟨by omega, by omega, rfl⟩, h⟩
theorem Sc {L : List Nd} {q : Nat} {x : Nd} (h : L[q]? = some x) : ∃ r, (bC L).drop (q * 6 + 5) = .int .i64 x.size :: r := by
 obtain ⟨r, hr⟩ := tz h
 refine ⟨r, ?_⟩
 rw [<- List.drop_drop, hr]; rfl
theorem Sl.Z1 {v : AV} {l : List Nd} (h : Sl v l) : v.cQ = true /\ ay v = [v] := by
 rcases h.s with ⟨_, _, rfl⟩ | ⟨c, rfl⟩ <;> exact ⟨rfl, rfl⟩
theorem FL (p i : Nat) (d : Int) (j : Nat) (x : Nd) : (jC p i d j x).text = x.text := by unfold jC; split <;> rfl
theorem xI {l : List Nd} {p : Nat} {ns : List Nd} (h1 : ∀ x ∈ l, x.text.length <= 3000) (h2 : ∀ x ∈ ns, x.text.length <= 3000) : ∀ x ∈ ek l p ns, x.text.length <= 3000 := by
 intro x hx
 unfold ek at hx
 rw [eZ, eZ] at hx
 rcases hx with (hx | hx) | hx
 · have := List.mem_of_mem_take hx
   unfold fZ at this
   obtain ⟨j, hj, rfl⟩ := List.mem_mapIdx.1 this
   rw [FL]; exact h1 _ (pU hj)
 · exact h2 x hx
 · exact h1 x (List.mem_of_mem_drop hx)
theorem ug (l : List Nd) (p : Nat) (ns : List Nd) : (ek l p ns).length <= l.length + ns.length + l.length := by
 unfold ek; simp [iz]; omega
section
variable {v : AV} {t : Tre}
theorem Ku {U : St} {R : cD -> St -> Prop} {bp bn p : Nat} {vn : AV} {ns : List Nd} (hv : Sl v t.flat) (hn : Sl vn ns) (hl : t.flat.length <= 1000) (zA : ns.length <= 1000) (iW : ∀ x ∈ t.flat, x.text.length <= 3000) (xT : ∀ x ∈ ns, x.text.length <= 3000) (hp : p < t.flat.length)
 (mp : U.box bp = some [.int .i64 (p : Nat)]) (mn : U.box bn = some [vn])
 (h : ∀ ae w, cL U ae -> IE ae w (ek t.flat p ns) -> (∀ b, w = .ms b 0 (ek t.flat p ns).length 6 43 -> U.live b = none) -> R (.ret (.aR [.agg [w], .int .i64 (fi (ek t.flat p ns))])) ae) : af K 94 [.agg [v], .box bp 0, .box bn 0] U R := by
 refine Py ?_
 unfold Rh
 rw [ff rfl]
 intro b3 iD
 have m3 : (U.new b3 (.box (ay (.agg [v])))).box b3 = some [v] := aN
 have e1 := bE iD (x := .box (ay (.agg [v])))
 have mp := e1.bj mp
 have mn := e1.bj mn
 generalize U.new b3 _ = bJ at *
 rw [cN]
 intro b4 lR
 have m4 : (bJ.new b4 (.box [AV.al])).box b4 = some [.al] := aN
 have f4 := e1.fresh lR.1
 have e2 := e1.new lR (x := .box [AV.al])
 have en := bE lR (x := .box [AV.al])
 have m3 := en.bj m3
 have mp := en.bj mp
 have mn := en.bj mn
 clear en
 generalize bJ.new b4 _ = bP at *
 obtain ⟨⟨s, _, hs, _⟩, _⟩ := place t hp
 obtain ⟨x, hx, _, BH, _⟩ := hs.lB
 have hle := hs.le
 have nA := s.cV
 have dD := my hs
 have bW : t.flat ≠ [] := fun e => by rw [e] at hp; simp at hp
 refine db mp rfl (gx (gx (db m3 rfl (db mp rfl ?_))))
 refine Ie (hv.fX _) hx (show (bO x)[5]? = some (.int .i64 x.size) from rfl) ?_
 rw [sa]
 refine ⟨aS (by omega) (by omega), ?_⟩
 have hb : ((p : Int) + x.size) = ((p + s.flat.length : Nat) : Int) := by omega
 rw [hb]
 refine gx (gx (db m3 rfl (db mp rfl ?_)))
 refine AZ (a := 0) (b := p) hv.s bW (by omega) (by omega) (fD _ _ _) (eV _) fun c1 => ?_
 refine db mn rfl (gx (gx (db m3 rfl ?_)))
 refine AZ (a := p + s.flat.length) (b := t.flat.length) hv.s bW (by omega) (by omega) (eV _) (fD _ _ _) fun c2 => ?_
 have xR : (t.flat.take p).drop 0 = t.flat.take p := rfl
 have hl3 : (t.flat.take t.flat.length).drop (p + s.flat.length) = t.flat.drop (p + s.flat.length) := by rw [oI]
 rw [xR, hl3]
 obtain ⟨V4, Kc⟩ := hn.Z1
 rw [uK]
 refine ⟨by decide, ?_⟩
 rw [pK (o := 0) (s := 1) rfl]
 refine ⟨⟨rfl, rfl, by simp [bK]⟩, ?_⟩
 rw [pK (o := 1) (s := 1) rfl]
 refine ⟨⟨V4, by rw [Kc]; rfl, by simp [bK, aB]⟩, ?_⟩
 rw [pK (o := 2) (s := 1) rfl]
 refine ⟨⟨rfl, rfl, by simp [bK, aB, Kc]⟩, ?_⟩
 rw [xj, Kc]
 refine ⟨by simp [bK, aB], ?_⟩
 rw [show (aB (aB (aB (bK 3 [AV.al]) 0 (ay (AV.vec (t.flat.take p).length c1 (bC (t.flat.take p))))) 1 [vn]) 2 (ay (AV.vec (t.flat.drop (p + s.flat.length)).length c2 (bC (t.flat.drop (p + s.flat.length)))))) = [AV.vec (t.flat.take p).length c1 (bC (t.flat.take p)), vn, AV.vec (t.flat.drop (p + s.flat.length)).length c2 (bC (t.flat.drop (p + s.flat.length)))] from rfl]
 refine IT (.inr ⟨_, rfl⟩) hn.s (.inr ⟨_, rfl⟩) (by simp; omega) fun cJ w e3 xU hw => ?_
 rw [bA]
 refine ⟨fun b dm => ?_, ?_⟩
 · simp only [cB, iy, ik, eZ, dS, List.not_mem_nil, or_false] at dm
   cases rJ : bP.live b with
   | some y => rw [e3 _ _ rJ]
   | none =>
     exfalso
     rcases dm with rfl | rfl | rfl | rfl
     all_goals first | exact de m3 rJ | exact de mp rJ | exact de mn rJ
 have Jr : t.flat.take p ++ ns ++ t.flat.drop (p + s.flat.length) = gH t.flat p p ns := by rw [xH, dD]
 rw [Jr] at hw xU
 have m3 := e3.bj m3
 have mp := e3.bj mp
 have mn := e3.bj mn
 have m4 := e3.bj m4
 refine eP mp rfl ?_
 have abM : cL U cJ := e2.trans e3
 have zy : (gH t.flat p p ns).length = p + ns.length + (t.flat.length - (p + s.flat.length)) := by rw [xH, dD]; simp; omega
 refine ⟨fun m v1 v2 v3' v4' v6 v7 v8 ae => ∃ (c : Nat) (w : AV), m = c /\ c <= p /\ (c = p \/ p < c + bY t.flat c) /\ v1 = .box bp 0 /\ v2 = .box bn 0 /\ v3' = .box b3 0 /\ v4' = .box b4 0 /\ v6 = .int .i64 ((p + s.flat.length : Nat) : Int) /\ v7 = w /\ v8 = .int .i64 (c : Nat) /\
  (ae.box bp = some [.int .i64 (p : Nat)] /\ ae.box bn = some [vn] /\ ae.box b3 = some [v] /\ ae.box b4 = some [.al]) /\ IE ae w (gH t.flat p c ns) /\ (∀ b, w = .ms b 0 (gH t.flat p p ns).length 6 43 -> bP.live b = none) /\ cL bP ae,
  ⟨_, p, w, rfl, cX _, .inl rfl, rfl, rfl, rfl, rfl, rfl, rfl, rfl, ⟨mp, mn, m3, m4⟩, hw, xU, e3⟩, ?_⟩
 clear mp mn m3 m4 hw xU e3
 rintro m v1 v2 v3' v4' v6 v7 v8 cu ⟨c, w, rfl, hcp, aas, rfl, rfl, rfl, rfl, rfl, rfl, rfl, ⟨mp, mn, m3, m4⟩, hw, xU, e4⟩
 rw [dK, ah]
 refine dk (fun ti => ?_) fun abQ => ?_
 · have h0 : 0 < m := by omega
   refine lJ m3 (Wc hv.s uf (by omega) h0 (by omega) fun dI e5 => ?_)
   rw [bA]
   have hq := EM (l := t.flat) (p := m) (m - 1)
   obtain ⟨x', gP⟩ : ∃ x', t.flat[lI t.flat m (m - 1)]? = some x' := ⟨t.flat[lI t.flat m (m - 1)]'(by omega), by simp [show lI t.flat m (m - 1) < t.flat.length by omega]⟩
   obtain ⟨r1, r2, r3, r4⟩ := Ih (d := (ns.length : Int) - bY t.flat p) hp hcp h0 aas gP
   generalize lI t.flat m (m - 1) = q at *
   have abR := uf.2.2 q x' gP
   have Ju := qf t.flat p m ns
   obtain ⟨b, rfl, hb⟩ : ∃ b, v7 = .ms b 0 (gH t.flat p m ns).length 6 43 /\ cu.box b = some (bC (gH t.flat p m ns)) := by
    rcases hw with ⟨hz, _⟩ | h
    · have := congrArg List.length hz
      rw [Ju, zy] at this; simp at this; omega
    · exact h
   have rH := xU b (by rw [Ju])
   have zp := Jd (p := p) (ns := ns) (by omega) (by omega) r4
   have hb := e5.bj hb
   have mp := e5.bj mp
   have mn := e5.bj mn
   have m3 := e5.bj m3
   have m4 := e5.bj m4
   obtain ⟨rr, hrr⟩ := Sc zp
   refine Wf (by omega) (gx (db hb hrr (db mn rfl ?_)))
   rw [hn.s.len, av]
   refine db mp rfl ?_
   rw [dU, dC, fN, av]
   refine ⟨aS (by omega) (by omega), ?_⟩
   rw [dU, dC, fN, av]
   refine ⟨aS (by omega) (by omega), ?_⟩
   rw [sa]
   refine ⟨aS (by omega) (by omega), ?_⟩
   refine Wf (by omega) (gx ?_)
   rw [cI hb]
   refine ⟨⟨rfl, rfl, by rw [fo]; omega⟩, ?_⟩
   have hd : (x'.size + ((ns.length : Int) - (((p + s.flat.length : Nat) : Int) - (p : Nat)))) = x'.size + ((ns.length : Int) - bY t.flat p) := by omega
   rw [hd]
   have pZ : aB (bC (gH t.flat p m ns)) (q * 6 + 5) (ay (.int .i64 (x'.size + ((ns.length : Int) - bY t.flat p)))) = bC (gH t.flat p q ns) := by
    rw [show ay (AV.int .i64 (x'.size + ((ns.length : Int) - bY t.flat p))) = [.int .i64 (x'.size + ((ns.length : Int) - bY t.flat p))] from rfl,
     Ez (y := { x' with size := x'.size + ((ns.length : Int) - bY t.flat p) }) zp (fun C => by simp [aB, bO]), Hm (by omega) (by omega), r1]
    rfl
   rw [pZ]
   have nb : ∀ {bb y}, bP.box bb = some y -> bb ≠ b := fun hy e => de hy (e ▸ rH)
   have np : bp ≠ b := nb (by assumption : bP.box bp = some [.int .i64 (p : Nat)])
   have nn : bn ≠ b := nb (by assumption : bP.box bn = some [vn])
   have n3 : b3 ≠ b := nb (by assumption : bP.box b3 = some [v])
   have n4 : b4 ≠ b := nb (by assumption : bP.box b4 = some [AV.al])
   refine ⟨q, by omega, q, _, rfl, by omega, .inr (by omega), rfl, rfl, rfl, rfl, rfl, rfl, rfl, ⟨?_, ?_, ?_, ?_⟩, .inr ⟨b, by rw [Ju, qf t.flat p q ns], aT⟩, xU, (e4.trans e5).set rH⟩
   · rw [aP np]; exact mp
   · rw [aP nn]; exact mn
   · rw [aP n3]; exact m3
   · rw [aP n4]; exact m4
 · have Dw : m = 0 := by omega
   subst Dw
   rw [sy] at hw
   have zH : v7.cQ = true /\ ay v7 = [v7] := by rcases hw with ⟨_, rfl⟩ | ⟨b, rfl, _⟩ <;> exact ⟨rfl, rfl⟩
   refine oQ [v7] (by simp [vG, zH, aB]) ?_
   rw [cN]
   intro b9 pH
   have m9 : (cu.new b9 (.box [AV.al])).box b9 = some [.al] := aN
   have Z7 := pH.cx m4
   have en := bE pH (x := .box [AV.al])
   have f9 : U.live b9 = none := (e2.trans e4).fresh pH.1
   have m4 := en.bj m4
   have VF : ∀ b, v7 = .ms b 0 (ek t.flat p ns).length 6 43 -> cu.box b = some (bC (ek t.flat p ns)) := fun b e => by
    rcases hw with ⟨_, rfl⟩ | ⟨b', rfl, h⟩
    · cases e
    · cases e; exact h
   rw [cI m9]
   refine ⟨⟨rfl, rfl, by simp⟩, ?_⟩
   have k9 : ((cu.new b9 (.box [AV.al])).set b9 (.box (aB [AV.al] 0 (ay (.agg [v7]))))).box b9 = some [v7] := by rw [aT]; rfl
   have k4 : ((cu.new b9 (.box [AV.al])).set b9 (.box (aB [AV.al] 0 (ay (.agg [v7]))))).box b4 = some [.al] := by rw [aP Z7]; exact m4
   have e9 : cL U ((cu.new b9 (.box [AV.al])).set b9 (.box (aB [AV.al] 0 (ay (.agg [v7]))))) := ((e2.trans e4).new pH).set f9
   have ZS : IE ((cu.new b9 (.box [AV.al])).set b9 (.box (aB [AV.al] 0 (ay (.agg [v7]))))) v7 (ek t.flat p ns) := by
    rcases hw with h | ⟨b', rfl, h⟩
    · exact .inl h
    · exact .inr ⟨b', rfl, by rw [aP (pH.cx h)]; exact en.bj h⟩
   generalize (cu.new b9 (.box [AV.al])).set b9 _ = pP at *
   show aw K _ _
   rw [xk k9]
   refine ⟨by simp, ?_⟩
   rw [xk k9]
   refine ⟨by simp, ?_⟩
   have Ju := ug t.flat p ns
   refine N2 ZS (by omega) (xI iW xT) ?_
   rw [bA]
   refine ⟨fun _ _ => rfl, ?_⟩
   rw [cI k4]
   refine ⟨⟨rfl, rfl, by simp⟩, ?_⟩
   refine ⟨fun b' dm => ?_, ?_⟩
   · simp only [cB, iy, ik, eZ, dS, List.not_mem_nil, or_false] at dm
     have Jk : b' = b9 := by rcases dm with h | h <;> exact h
     rw [Jk, eS, if_neg Z7.symm]
   rw [lF aT]
   refine ⟨by simp [aB], ak.mk (h _ v7 (e9.set f4) ?_ ?_)⟩
   · rcases ZS with h | ⟨b', rfl, h⟩
     · exact .inl h
     · refine .inr ⟨b', rfl, ?_⟩
       rw [aP]; exact h
       intro e
       have := xU b' (by rw [<- sy, qf])
       exact de (by assumption : bP.box b4 = some [AV.al]) (e ▸ this)
   · intro b e
     have := xU b (by rw [e, <- sy, qf])
     exact e2.fresh this
end
end Go.Rip
namespace Go.Rip
open Go.Proofs Go.RowKit
section
variable {v vn : AV} {l ns : List Nd}
theorem Hn (hv : Sl v l) (hn : Sl vn ns) (hl : l.length <= 1000) (zA : ns.length <= 1000) (iW : ∀ x ∈ l, x.text.length <= 3000) (xT : ∀ x ∈ ns, x.text.length <= 3000) (p : Int) : Pure K 50 [.agg [v], .int .i64 p, vn] (.aR [.agg [fx (eK l p ns).1], .int .i64 (eK l p ns).2]) := by
 refine Pure.QJ (by simp [bV, hv.cl, hn.c, show closed (.int .i64 p) = true from rfl]) (by simp [closed, bV, pq]) fun R hR => ?_
 refine Pe ?_
 unfold QY
 obtain ⟨V4, Kc⟩ := hn.Z1
 rw [ff rfl]
 intro b1 eH
 have m1 : ((bD ⟨.e, 0⟩).new b1 (.box (ay (.agg [v])))).box b1 = some [v] := aN
 generalize (bD _).new b1 _ = aG at *
 rw [ff rfl]
 intro b2 lQ
 have m2 : (aG.new b2 (.box (ay (.int .i64 p)))).box b2 = some [.int .i64 p] := aN
 have m1 := (bE lQ (x := .box (ay (.int .i64 p)))).bj m1
 generalize aG.new b2 _ = bJ at *
 rw [ff V4]
 intro b3 iD
 have m3 : (bJ.new b3 (.box (ay vn))).box b3 = some [vn] := by rw [aN, Kc]
 have en := bE iD (x := .box (ay vn))
 have m1 := en.bj m1
 have m2 := en.bj m2
 generalize bJ.new b3 _ = bP at *
 rw [cN]
 intro b4 lR
 have m4 : (bP.new b4 (.box [AV.al])).box b4 = some [.al] := aN
 have en := bE lR (x := .box [AV.al])
 have m1 := en.bj m1
 have m2 := en.bj m2
 have m3 := en.bj m3
 generalize bP.new b4 _ = cJ at *
 clear en
 refine lJ m1 (eP m2 rfl ?_)
 have fin : ∀ (x : AV) (e : Int) (ae : St), ae.box b4 = some [.al] -> x.cQ = true -> ay x = [x] -> (∀ z, resolve 3 (ae.set b4 (.box z)) x = fx (eK l p ns).1) -> e = (eK l p ns).2 -> ax (fun v11 U => (bq v11 0).wp K U (fun v12 U => (bq v11 1).wp K U (fun bI U => (aL (some (true, 1)) (.box b4 0) v12 U).wp K U (fun _ U => br (some (true, 1)) (.box b4 0) U fun r0 => ak R (AV.aR [r0, bI]) U) (aa R)) (aa R)) (aa R)) (aa R) (.ret (.aR [.agg [x], .int .i64 e])) ae := by
  intro x e ae hb hx1 hx2 hr he
  subst he
  simp only [bA, cz, List.drop, bM]
  rw [cI hb]
  refine ⟨⟨rfl, rfl, by simp⟩, ?_⟩
  rw [lF aT]
  refine ⟨by simp [aB], ak.mk (hR _ _ ?_)⟩
  show AV.aR [.agg [resolve 3 _ x], _] = _
  rw [hr]; rfl
 refine WM (fs := []) (cs := [.box b2 0, .box b3 0]) hv (by omega) iW (by kernel_rfl) (fun ha cu e4 => ?_) (fun ha cu b6 e4 f6 m6 => ?_)
 · have hu : eK l p ns = ([], gI l p) := by unfold eK; rw [if_pos ha]
   exact fin _ _ _ (e4.bj m4) rfl rfl (fun z => by rw [hu]; rfl) (by rw [hu])
 have QI : b4 ≠ b6 := fun e => de m4 (e ▸ f6)
 have m2 := e4.bj m2
 have m3 := e4.bj m3
 have m4 := e4.bj m4
 obtain ⟨n, t, s, rfl, rfl, h1, h2, h3, hs⟩ := Bm ha
 show af K 94 [.agg [v], .box b2 0, .box b3 0] cu _
 refine Ku hv hn hl zA iW xT h3 m2 m3 fun dI w e5 hw xU => ?_
 have zH : w.cQ = true /\ ay w = [w] := by rcases hw with ⟨_, rfl⟩ | ⟨b, rfl, _⟩ <;> exact ⟨rfl, rfl⟩
 have hg : eK t.flat n ns = if fi (ek t.flat n ns) ≠ 0 then ([], fi (ek t.flat n ns)) else (ek t.flat n ns, 0) := by
  unfold eK; rw [if_neg (by simp [ha]), dR]
 have m4 := e5.bj m4
 refine ⟨w, _, rfl, zH.1, zH.2, e5.bj m6, fun bW jl hk => ?_, fun he z1 z2 => ?_⟩
 · rw [if_pos bW] at hg
   exact fin _ _ _ (hk _ _ QI m4) rfl rfl (fun z => by rw [hg]; rfl) (by rw [hg])
 · rw [if_neg (by simp [he])] at hg
   refine fin _ _ _ (by rw [aP QI, aP QI]; exact m4) zH.1 zH.2 (fun z => ?_) (by rw [hg])
   rw [hg]
   rcases hw with ⟨h0, rfl⟩ | ⟨b, rfl, hb⟩
   · rw [h0]; rfl
   · have nb := xU b rfl
     have n4b : b ≠ b4 := fun e => de (by assumption : cu.box b4 = some [AV.al]) (e ▸ nb)
     have Z8 : b ≠ b6 := fun e => de m6 (e ▸ nb)
     have bW : ek t.flat n ns ≠ [] := fun h0 => by
      rw [h0] at he
      unfold fi at he
      rw [if_neg (by simp), Cf (by rintro ⟨t', tk⟩; have := t'.cV; rw [<- tk] at this; simp at this)] at he
      cases he
     exact yb (by rw [aP n4b, aP Z8, aP Z8]; exact hb) bW
end
end Go.Rip
namespace Go.Rip
open Go.Proofs Go.RowKit
theorem dZ.nds {aG U : St} {v : AV} {l : List Nd} (h : dZ aG U v 43 6 l.length (bC l)) (n : Nat) (τ : St) : resolve (n + 2) τ v = fx l := by
 unfold fx
 split
 · rename_i e; subst e; rw [h.z rfl]; rfl
 · rename_i e
   rcases h.g with ⟨h1, _, _⟩ | ⟨t, rfl, _, _⟩
   · exact absurd (oH.1 h1) e
   · show AV.vec l.length .hX ((bC l).map (resolve (n + 1) τ)) = _
     rw [sM]
theorem Ii {l : List Nd} {p i : Nat} {d : Int} {x : Nd} (h : l[i]? = some x) : (fZ l p 0 d).take (i + 1) = (fZ l p 0 d).take i ++ [jC p 0 d i x] := by
 rw [nH, oa h]; rfl
theorem km {U ae : St} {b : Nat} {y : List AV} {v : AV} {e sz n : Nat} {l : List AV} {aG : St} (h : U.box b = some y) (hg : dZ aG U v e sz n l) (k : ∀ b x, (∀ n l, v ≠ .vec n (.own b) l) -> U.live b = some x -> ae.live b = some x) : ae.box b = some y := (vU hg.g k).1 h
section
variable {v vn : AV} {l ns : List Nd}
theorem FP (hv : Sl v l) (hn : Sl vn ns) (hl : l.length <= 1000) (zA : ns.length <= 1000) (iW : ∀ x ∈ l, x.text.length <= 3000) (xT : ∀ x ∈ ns, x.text.length <= 3000) (p : Int) : Pure K 51 [.agg [v], .int .i64 p, vn] (.aR [.agg [fx (eK l p ns).1], .int .i64 (eK l p ns).2]) := by
 refine Pure.QJ (by simp [bV, hv.cl, hn.c, show closed (.int .i64 p) = true from rfl]) (by simp [closed, bV, pq]) fun R hR => ?_
 refine Pf ?_
 unfold QZ
 rw [ff rfl]
 intro b3 iD
 have m3 : ((bD ⟨.e, 0⟩).new b3 (.box (ay (.agg [v])))).box b3 = some [v] := aN
 generalize (bD _).new b3 _ = aG at *
 rw [cN]
 intro b6 nX
 have m6 : (aG.new b6 (.box [AV.al])).box b6 = some [.al] := aN
 have m3 := (bE nX (x := .box [AV.al])).bj m3
 generalize aG.new b6 (.box [AV.al]) = bJ at *
 refine lJ m3 ((NW hv (by omega) iW p).go ?_)
 refine NK ?_
 by_cases ha : gI l p = 0
 rotate_left
 · have hu : eK l p ns = ([], gI l p) := by unfold eK; rw [if_pos ha]
   simp only [ha, ct, dt]
   refine cR (oQ [.al] rfl ?_)
   rw [cI m6]
   refine ⟨⟨rfl, rfl, by simp⟩, ?_⟩
   rw [lF aT]
   refine ⟨by simp [aB], ak.mk (hR _ _ ?_)⟩
   rw [hu]; rfl
 simp only [ha, bT, ca]
 refine dQ ?_
 obtain ⟨n, t, s, rfl, rfl, h1, h2, h3, hs⟩ := Bm ha
 obtain ⟨x, hx, _, BH, _⟩ := hs.lB
 have hle := hs.le
 have nA := s.cV
 have dD := my hs
 have bW : t.flat ≠ [] := fun e => by rw [e] at h3; simp at h3
 rw [cN]
 intro b9 pH
 have m9 : (bJ.new b9 (.box [AV.al])).box b9 = some [.al] := aN
 have n93 := pH.cx m3
 have Z9 := pH.cx m6
 have en := bE pH (x := .box [AV.al])
 have m3 := en.bj m3
 have m6 := en.bj m6
 generalize bJ.new b9 (.box [AV.al]) = bP at *
 clear en
 rw [hn.s.len, ah]
 refine pW (eP m3 rfl ?_)
 refine sW (hv.fX _) hx (show (bO x)[5]? = some (.int .i64 x.size) from rfl) ?_
 rw [Iz]
 refine ⟨aS (by omega) (by omega), ?_⟩
 have hd : (ns.length : Int) - x.size = (ns.length : Int) - bY t.flat n := by omega
 rw [hd]
 generalize Zi : (ns.length : Int) - bY t.flat n = d
 have hdb : -1000 <= d /\ d <= 1000 := by omega
 refine ⟨fun m v1 v2 v3 v6 v9 v10 v11 ae => ∃ (i : Nat) (vk : AV), m = n - i /\ i <= n /\ v1 = .int .i64 (n : Nat) /\ v2 = vn /\ v3 = .box b3 0 /\ v6 = .box b6 0 /\ v9 = .box b9 0 /\ v10 = .int .i64 d /\ v11 = .int .i64 (i : Nat) /\ ae.box b3 = some [v] /\ ae.box b6 = some [.al] /\ ae.box b9 = some [vk] /\ dZ (bD ⟨.e, 0⟩) ae vk 43 6 i (bC ((fZ t.flat n 0 d).take i)),
  ⟨_, 0, .al, rfl, by omega, rfl, rfl, rfl, rfl, rfl, rfl, rfl, m3, m6, m9, dZ.nil (zh _)⟩, ?_⟩
 clear m3 m6 m9
 rintro m v1 v2 v3 v6 v9 v10 v11 cJ ⟨i, vk, rfl, hi, rfl, rfl, rfl, rfl, rfl, rfl, rfl, m3, m6, m9, hg⟩
 rw [bg, ah]
 refine dk (fun aJ => ?_) fun fJ => ?_
 · have aJ : i < n := by omega
   obtain ⟨y, hy⟩ : ∃ y, t.flat[i]? = some y := ⟨t.flat[i]'(by omega), by simp [show i < t.flat.length by omega]⟩
   have hyz := uf.2.2 i y hy
   refine pW (eP m3 rfl ?_)
   refine EY hv.s hy fun r => ?_
   rw [xA]
   refine ⟨by simp [bO], ?_⟩
   rw [show (bO y ++ r).take 6 = bO y from rfl]
   rw [cN]
   intro nQ Dl
   have m12 : (cJ.new nQ (.box [AV.int .u8 0, AV.str [], AV.int .i64 0, AV.int .i64 0, AV.int .i64 0, AV.int .i64 0])).box nQ = some [AV.int .u8 0, AV.str [], AV.int .i64 0, AV.int .i64 0, AV.int .i64 0, AV.int .i64 0] := aN
   have n123 := Dl.cx m3
   have n126 := Dl.cx m6
   have n129 := Dl.cx m9
   have en := bE Dl (x := .box [AV.int .u8 0, AV.str [], AV.int .i64 0, AV.int .i64 0, AV.int .i64 0, AV.int .i64 0])
   have f12 : cJ.live nQ = none := Dl.1
   have m3 := en.bj m3
   have m6 := en.bj m6
   have m9 := en.bj m9
   have hg := hg.mono en
   have t12 : ∀ τ tt, (cJ.new nQ (.box [AV.int .u8 0, AV.str [], AV.int .i64 0, AV.int .i64 0, AV.int .i64 0, AV.int .i64 0])).tok τ = some tt -> τ ≠ nQ := fun τ tt ht => (ej m12 ht).symm
   generalize cJ.new nQ _ = cu at *
   rw [cI m12]
   refine ⟨⟨rfl, rfl, by simp⟩, ?_⟩
   rw [show aB [AV.int .u8 0, AV.str [], AV.int .i64 0, AV.int .i64 0, AV.int .i64 0, AV.int .i64 0] 0 (ay (.agg (bO y))) = bO y from rfl]
   intro j hj
   have tail : ∀ (z : Nd), z = jC n 0 d i y -> j (.int .i64 (n : Nat)) v2 (.box b3 0) (.box b6 0) (.box b9 0) (.int .i64 d) (.int .i64 (i : Nat)) (.box nQ 0) (cu.set nQ (.box (bO z))) := by
    intro z hz
    refine hj _ _ _ _ _ _ _ _ _ ?_
    have m3 : (cu.set nQ (.box (bO z))).box b3 = some [v] := by rw [aP n123]; exact m3
    have m6 : (cu.set nQ (.box (bO z))).box b6 = some [.al] := by rw [aP n126]; exact m6
    have m9 : (cu.set nQ (.box (bO z))).box b9 = some [vk] := by rw [aP n129]; exact m9
    have hg : dZ (bD ⟨.e, 0⟩) (cu.set nQ (.box (bO z))) vk 43 6 i (bC ((fZ t.flat n 0 d).take i)) := by
     refine ⟨?_, hg.z, hg.t, zh _⟩
     rcases hg.g with g | ⟨τ, r1, r2, r3⟩
     · exact .inl g
     · exact .inr ⟨τ, r1, by rw [gz (t12 _ _ r2)]; exact r2, r3⟩
    have m12 : (cu.set nQ (.box (bO z))).box nQ = some (bO z) := aT
    generalize cu.set nQ (.box (bO z)) = dI at *
    refine pW (eP m9 rfl ?_)
    rw [qq m12]
    refine ⟨by simp [bO], ?_⟩
    rw [show ((bO z).drop 0).take 6 = bO z from rfl, fC]
    refine ⟨by omega, ?_⟩
    rw [eO (o := 0) (s := 6) rfl]
    refine ⟨⟨rfl, rfl, by simp [bK]⟩, ?_⟩
    rw [gM]
    refine ⟨rfl, ?_⟩
    rw [show aB (bK 1 [AV.int .u8 0, AV.str [], AV.int .i64 0, AV.int .i64 0, AV.int .i64 0, AV.int .i64 0]) 0 (ay (.agg (bO z))) = bO z from rfl]
    refine wQ hg (m := 1) (l2 := bO z) rfl rfl (by omega) (by omega) fun oP v' g2 k2 => ?_
    have m3 := km m3 hg k2
    have m6 := km m6 hg k2
    have m9 := km m9 hg k2
    have lS : v'.cQ = true /\ ay v' = [v'] := by
     rcases g2.g with ⟨h0, _, _⟩ | ⟨τ, r1, _, _⟩
     · omega
     · rw [r1]; exact ⟨rfl, rfl⟩
    refine pW ?_
    rw [cI m9]
    refine ⟨⟨lS.1, by rw [lS.2]; rfl, by simp⟩, ?_⟩
    rw [cg]
    refine ⟨aS (by omega) (by omega), n - (i + 1), by omega, i + 1, v', rfl, by omega, rfl, rfl, rfl, rfl, rfl, rfl, by simp, ?_, ?_, ?_, ?_⟩
    · rw [aP n93]; exact m3
    · rw [aP Z9]; exact m6
    · rw [aT, lS.2]; rfl
    · rw [Ii hy, px, <- hz, show bC [z] = bO z by simp [bC]]
      refine ⟨?_, g2.z, g2.t, zh _⟩
      rcases g2.g with g | ⟨τ, r1, r2, r3⟩
      · exact .inl g
      · exact .inr ⟨τ, r1, by rw [gz (ej m9 r2).symm]; exact r2, r3⟩
   have VP : (cu.set nQ (.box (bO y))).box nQ = some (bO y) := aT
   refine pW (eP VP rfl ?_)
   rw [cg]
   refine ⟨aS (by omega) (by omega), rv ?_⟩
   refine dk (fun ti => ?_) fun ZE => ?_
   · refine pW (eP VP rfl ?_)
     rw [cg]
     refine ⟨aS (by omega) (by omega), pW ?_⟩
     rw [cI VP]
     refine ⟨⟨rfl, rfl, by simp [bO]⟩, ?_⟩
     have := tail { y with size := y.size + d } (by unfold jC; rw [if_pos (by omega)])
     have e : (cu.set nQ (.box (bO y))).set nQ (.box (aB (bO y) (0 + 5) (ay (.int .i64 (y.size + d))))) = cu.set nQ (.box (bO { y with size := y.size + d })) := by
      have e2 : aB (bO y) (0 + 5) (ay (.int .i64 (y.size + d))) = bO { y with size := y.size + d } := by simp [aB, bO, ay]
      rw [e2]
      show St.set _ _ _ = _
      simp [St.set]
      funext b
      split <;> rfl
     rw [e]
     exact this
   · exact tail y (by unfold jC; rw [if_neg (by omega)])
 · have zw : i = n := by omega
   subst zw
   refine gx (db m9 rfl (gx (db m3 rfl (gx (db m3 rfl ?_)))))
   refine yI hv.s hx fun r => ?_
   rw [show ag (some 5) (.ck (bO x ++ r)) = .val (.ck ((bO x ++ r).drop 5)) from rfl, av, oF, show (bO x ++ r).drop 5 = .int .i64 x.size :: r from rfl, fM, sa]
   refine ⟨aS (by omega) (by omega), ?_⟩
   have hb : ((i : Int) + x.size) = ((i + s.flat.length : Nat) : Int) := by omega
   rw [hb]
   refine AZ (a := i + s.flat.length) (b := t.flat.length) hv.s bW (by omega) (by omega) (eV _) (fD _ _ _) fun c2 => ?_
   rw [show (t.flat.take t.flat.length).drop (i + s.flat.length) = t.flat.drop (i + s.flat.length) by rw [oI]]
   have lD : ((fZ t.flat i 0 d).take i).length = i := by rw [List.length_take, iz]; omega
   refine NG hg (m := ns.length) (l2 := bC ns) (hn.s.yz (U := cJ)).src (by rw [fo]; omega) (by omega) fun cu u1 g1 k1 => ?_
   have c3 := km m3 hg k1
   have c6 := km m6 hg k1
   have c9 := km m9 hg k1
   have lv : ∀ {τ : St} {b : Nat} {y : List AV}, cJ.box b = some y -> (∀ x, cJ.live b = some x -> τ.live b = some x) -> τ.live b = cJ.live b := by
    intro τ b y hb hk
    cases e : cJ.live b with
    | none => exact absurd e (de hb)
    | some z => exact hk z e
   have no1 : ∀ {b y}, cJ.box b = some y -> ∀ n l, vk ≠ .vec n (.own b) l := fun hb n l lS => by
    rcases hg.g with ⟨_, _, h3⟩ | ⟨τ, r1, r2, _⟩
    · rw [h3] at lS; cases lS
    · rw [r1] at lS; cases lS; exact ej hb r2 rfl
   refine ⟨fun b dm => ?_, ?_⟩
   · simp only [cB, iy, ik, eZ, dS, List.not_mem_nil, or_false] at dm
     have : ∃ y, cJ.box b = some y := by rcases dm with rfl | rfl | rfl <;> exact ⟨_, ‹_›⟩
     obtain ⟨y, hy⟩ := this
     exact lv hy fun x hx => k1 _ _ (no1 hy) hx
   refine NG g1 (m := (t.flat.drop (i + s.flat.length)).length) (l2 := bC (t.flat.drop (i + s.flat.length))) rfl (by rw [fo]; omega) (by simp; omega) fun dI u2 g2 k2 => ?_
   have no2 : ∀ {b y}, cu.box b = some y -> ∀ n l, u1 ≠ .vec n (.own b) l := fun hb n l lS => by
    rcases g1.g with ⟨_, _, h3⟩ | ⟨τ, r1, r2, _⟩
    · rw [h3] at lS; cases lS
    · rw [r1] at lS; cases lS; exact ej hb r2 rfl
   refine ⟨fun b dm => ?_, ?_⟩
   · simp only [cB, iy, ik, eZ, dS, List.not_mem_nil, or_false] at dm
     have : ∃ y, cJ.box b = some y /\ cu.box b = some y := by rcases dm with rfl | rfl | rfl <;> exact ⟨_, ‹_›, ‹_›⟩
     obtain ⟨y, hy, DN⟩ := this
     exact lv hy fun x hx => k2 _ _ (no2 DN) (k1 _ _ (no1 hy) hx)
   have m6 := km c6 g1 k2
   have m9 := km c9 g1 k2
   have bm : bC ((fZ t.flat i 0 d).take i) ++ bC ns ++ bC (t.flat.drop (i + s.flat.length)) = bC (ek t.flat i ns) := by
    rw [<- px, <- px]; unfold ek; rw [Zi, dD]
   have Dm : i + ns.length + (t.flat.drop (i + s.flat.length)).length = (ek t.flat i ns).length := by
    unfold ek; rw [Zi, dD, eU, eU, lD]
   rw [bm, Dm] at g2
   have zF : u2.cQ = true /\ ay u2 = [u2] := by
    rcases g2.g with ⟨_, _, r1⟩ | ⟨τ, r1, _, _⟩ <;> rw [r1] <;> exact ⟨rfl, rfl⟩
   refine gx ?_
   rw [cI m9]
   refine ⟨⟨zF.1, by rw [zF.2]; rfl, by simp⟩, ?_⟩
   have g3 : dZ (bD ⟨.e, 0⟩) (dI.set b9 (.box (aB [vk] 0 (ay u2)))) u2 43 6 (ek t.flat i ns).length (bC (ek t.flat i ns)) := by
    refine ⟨?_, g2.z, g2.t, zh _⟩
    rcases g2.g with g | ⟨τ, r1, r2, r3⟩
    · exact .inl g
    · exact .inr ⟨τ, r1, by rw [gz (ej m9 r2).symm]; exact r2, r3⟩
   have c6 : (dI.set b9 (.box (aB [vk] 0 (ay u2)))).box b6 = some [.al] := by rw [aP Z9]; exact m6
   have c9 : (dI.set b9 (.box (aB [vk] 0 (ay u2)))).box b9 = some [u2] := by rw [aT, zF.2]; rfl
   show (ao (some (true, 1)) (.box b9 0) (dI.set b9 (.box (aB [vk] 0 (ay u2))))).wp K _ _ _
   generalize dI.set b9 _ = oP at *
   have Ju := ug t.flat i ns
   refine lJ c9 (F2 g3.fX (by omega) (fun x hx => by have := xI iW xT x hx; omega) fun nq e7 => ?_)
   have m6 := e7.bj c6
   have m9 := e7.bj c9
   rw [bA]
   refine NK ?_
   have Zn : eK t.flat i ns = if fi (ek t.flat i ns) ≠ 0 then ([], fi (ek t.flat i ns)) else (ek t.flat i ns, 0) := by
    unfold eK; rw [if_neg (by simp [ha]), dR]
   by_cases hc : fi (ek t.flat i ns) = 0
   · simp only [hc, bT, ca]
     refine dQ (lJ m9 ?_)
     rw [cI m6]
     refine ⟨⟨rfl, rfl, by simp⟩, ?_⟩
     rw [lF aT]
     refine ⟨by simp [aB], ak.mk (hR _ _ ?_)⟩
     rw [Zn, if_neg (by simp [hc])]
     show AV.aR [.agg [resolve 3 _ u2], .int .i64 0] = _
     rw [g3.nds]
   · simp only [hc, ct, dt]
     refine cR (oQ [.al] rfl ?_)
     rw [cI m6]
     refine ⟨⟨rfl, rfl, by simp⟩, ?_⟩
     rw [lF aT]
     refine ⟨by simp [aB], ak.mk (hR _ _ ?_)⟩
     rw [Zn, if_pos hc]; rfl
end
end Go.Rip
namespace Go.Rip
open Go.Proofs Go.RowKit
theorem af.aby {C : cw} {f : Nat} {args args' : List AV} {U : St} {R : cD -> St -> Prop} (hw : ∀ g vs, aE g args vs -> aE g args' vs) (h : af C f args' U R) : af C f args U R := fun g w vs hs hG ha => h g w vs hs hG (hw _ _ ha)
theorem az.hX {g : Gh} {n : Nat} {c : iQ} {l : List AV} {v : Value} (h : az g (.vec n c l) v) : az g (.vec n .hX l) v := by
 simp only [az] at h ⊢
 obtain ⟨aH, off, c', vs, h1, h2, h3, h4, h5⟩ := h
 exact ⟨aH, off, c', vs, h1, h2, h3, trivial, h5⟩
theorem Fq {v vn : AV} {l ns : List Nd} (hv : Sl v l) (p : Int) (hn : Sl vn ns) : Pure K 14 [.agg [v], .int .i64 p, vn] (.bool true) := by
 refine Pure.of (by simp [bV, hv.cl, hn.c, show closed (.int .i64 p) = true from rfl]) rfl (fun U => rfl) fun R hR => ?_
 refine O5 ?_
 unfold QO
 rw [ff rfl]
 intro b1 eH
 have m1 : ((bD ⟨.e, 0⟩).new b1 (.box (ay (.agg [v])))).box b1 = some [v] := aN
 generalize (bD _).new b1 _ = aG at *
 refine lJ m1 ((Nr hv).go ?_)
 simp only [c8, ah]
 cases ht : oL l with
 | false =>
   simp only [dt, aI, show (true == false) = false from rfl, aC, a7, aA, if_true, ah]
   exact cR (tX.go (ak.mk (hR _)))
 | true =>
   simp only [ca, aI, dG, aC, bl, av]
   refine iL (tI hn.s) ?_
   simp only [c8, av, aA, bo, if_false, ah]
   cases ht2 : oL ns with
   | false =>
     simp only [dt]
     exact cR (tX.go (ak.mk (hR _)))
   | true =>
   simp only [ca]
   refine dQ ?_
   obtain ⟨hl, iW⟩ := sh.1 ht
   obtain ⟨zA, xT⟩ := sh.1 ht2
   have iW : ∀ x ∈ l, x.text.length <= 3000 := fun x hx => by have := iW x hx; omega
   have xT : ∀ x ∈ ns, x.text.length <= 3000 := fun x hx => by have := xT x hx; omega
   have cl := IU hv (by omega)
   have cv := AS l
   have cn := AS ns
   refine lJ m1 (cl.go ?_)
   have rest : ∀ (y : AV) (bJ : St), bJ.box b1 = some [v] -> (∀ g u, az g y u -> az g (fx ns) u) -> af K 50 [.agg [fx l], .int .i64 p, y] bJ (ax (fun dE U =>
    (bq dE 0).wp K U (fun di U =>
    (bq dE 1).wp K U (fun v28 U =>
    (au.cq [AV.al]).wp K U (fun v7 U =>
    (aL (some (true, 1)) v7 di U).wp K U (fun _ U =>
    (ao (some (true, 1)) (.box b1 0) U).wp K U (fun v30 U =>
    af K 51 [v30, .int .i64 p, vn] U (ax (fun dP U =>
    (bq dP 0).wp K U (fun eI U =>
    (bq dP 1).wp K U (fun er U =>
    (au.cq [AV.al]).wp K U (fun v9 U =>
    (aL (some (true, 1)) v9 eI U).wp K U (fun _ U =>
    (aj .eql (BT.mk false false false none false) false v28 er).wp K U (fun eY U =>
    ad K (ar eY true) (ao (some (true, 1)) v7 U) (fun v40 =>
    ad K (ar eY true) (ao (some (true, 1)) v9 U) (fun gQ =>
    ad K (ar eY true) (au.enter 22 [v40, gQ]) (fun iH =>
    (aQ eY iH (AV.bool false)).wp K U (fun dY U =>
    ad K (ar dY true) (au.enter 17 []) (fun jf =>
    (aQ dY jf (AV.bool false)).wp K U (fun v46 U =>
    ak R v46 U) (aa R))) (aa R))))) (aa R)) (aa R)) (aa R)) (aa R)) (aa R)) (aa R))) (aa R)) (aa R)) (aa R)) (aa R)) (aa R)) (aa R)) := by
    intro y bJ m1 hy
    refine af.aby (args' := [.agg [fx l], .int .i64 p, fx ns]) (fun g vs h => ?_) ((Hn cv cn hl zA iW xT p).go ?_)
    · simp only [aE] at h ⊢
      obtain ⟨u1, us1, e1, r1, u2, us2, e2, r2, u3, us3, e3, r3, r4⟩ := h
      exact ⟨u1, us1, e1, r1, u2, us2, e2, r2, u3, us3, e3, hy g u3 r3, r4⟩
    simp only [cz, List.drop, bM]
    rw [cN]
    intro b7 pG
    have m7 : (bJ.new b7 (.box [AV.al])).box b7 = some [.al] := aN
    have n17 := pG.cx m1
    have m1 := (bE pG (x := .box [AV.al])).bj m1
    generalize bJ.new b7 (.box [AV.al]) = bP at *
    rw [cI m7]
    refine ⟨⟨rfl, rfl, by simp⟩, ?_⟩
    have m1 : (bP.set b7 (.box (aB [AV.al] 0 (ay (.agg [fx (eK l p ns).1]))))).box b1 = some [v] := by rw [aP n17]; exact m1
    have m7 : (bP.set b7 (.box (aB [AV.al] 0 (ay (.agg [fx (eK l p ns).1]))))).box b7 = some [fx (eK l p ns).1] := by rw [aT]; rfl
    generalize bP.set b7 _ = cJ at *
    refine lJ m1 ((FP hv hn hl zA iW xT p).go ?_)
    simp only [cz, List.drop, bM]
    rw [cN]
    intro b9 pH
    have m9 : (cJ.new b9 (.box [AV.al])).box b9 = some [.al] := aN
    have n79 := pH.cx m7
    have m7 := (bE pH (x := .box [AV.al])).bj m7
    generalize cJ.new b9 (.box [AV.al]) = cu at *
    rw [cI m9]
    refine ⟨⟨rfl, rfl, by simp⟩, ?_⟩
    have m7 : (cu.set b9 (.box (aB [AV.al] 0 (ay (.agg [fx (eK l p ns).1]))))).box b7 = some [fx (eK l p ns).1] := by rw [aP n79]; exact m7
    have m9 : (cu.set b9 (.box (aB [AV.al] 0 (ay (.agg [fx (eK l p ns).1]))))).box b9 = some [fx (eK l p ns).1] := by rw [aT]; rfl
    generalize cu.set b9 _ = dI at *
    have rH : (eK l p ns).1.length <= 1000000 := by
     have := ug l p.toNat ns
     unfold eK
     split
     · simp
     · split
       · simp
       · show (ek l p.toNat ns).length <= 1000000
         omega
    simp only [aX, ah, bT, aI, dG, aC, bl, av, aA, if_true]
    rw [xk m7]
    refine ⟨by simp, ?_⟩
    rw [xk m9]
    refine ⟨by simp, ?_⟩
    refine iL (show Pure K 22 _ (.bool true) from by simpa using KH (eK l p ns).1 (eK l p ns).1 rH rH) ?_
    simp only [aA, if_true, ah, aI, dG, aC, bl, av]
    refine iL tX ?_
    exact ak.mk (hR _)
   refine EV hn.s.yz.src (fo ns ▸ by omega) (by omega) (fun h0 => ?_) (fun _ h => nomatch h) (fun h0 _ b hb => ?_)
   · refine rest _ _ m1 fun g u h => ?_
     have : ns = [] := oH.1 h0
     subst this
     exact h
   · refine rest _ _ ((bE hb).bj m1) fun g u h => ?_
     have : ns ≠ [] := fun e => by subst e; exact h0 rfl
     unfold fx
     rw [if_neg this]
     exact az.hX h
end Go.Rip
