/- Lemmas for the proof: no conditions. -/
import Derived.Test.YtnfpmiiopiinbaaGreatDoorRipZz
import Derived.Test.YtnfpmiiopiinbaaGreatDoorRipYc
import Derived.Test.YtnfpmiiopiinbaaGreatDoorRipC
import Derived.Test.YtnfpmiiopiinbaaGreatDoorRipX
import Derived.Test.YtnfpmiiopiinbaaGreatDoorRipYb
import Derived.Test.YtnfpmiiopiinbaaGreatDoorRipAw
import Derived.Test.YtnfpmiiopiinbaaGreatDoorRipG
set_option linter.unusedVariables false
set_option linter.unusedSimpArgs false
set_option linter.loopingSimpArgs false
namespace Go.Rip
open Go.Proofs Go.RowKit
def fO (l : List Nd) (p c : Nat) (ns : List Nd) : List Nd := (gy l p c ((ns.length : Int) - a8 l p)).take p ++ ns ++ l.drop (p + a8 l p)
theorem vS (l : List Nd) (p : Nat) (ns : List Nd) : fO l p p ns = l.take p ++ ns ++ l.drop (p + a8 l p) := by unfold fO; rw [GG]
theorem qL (l : List Nd) (p : Nat) (ns : List Nd) : fO l p 0 ns = dc l p ns := rfl
theorem FH {l : List Nd} {p c q : Nat} {ns : List Nd} {y : Nd} (hq : q < p) (hp : p <= l.length) : (fO l p c ns).set q y = (((gy l p c ((ns.length : Int) - a8 l p)).set q y).take p) ++ ns ++ l.drop (p + a8 l p) := by
 unfold fO
 rw [kf, List.set_append_left _ _ (by rw [List.length_take, fG]; omega), kf, List.take_set]
theorem HM {l : List Nd} {p c q : Nat} {ns : List Nd} {x : Nd} (hq : q < p) (hp : p <= l.length) (h : (gy l p c ((ns.length : Int) - a8 l p))[q]? = some x) : (fO l p c ns)[q]? = some x := by
 unfold fO
 rw [kf, pL (by rw [List.length_take, fG]; omega), List.getElem?_take, if_pos hq, h]
theorem oT (l : List Nd) (p c : Nat) (ns : List Nd) : (fO l p c ns).length = (fO l p p ns).length := by simp [fO, fG]
theorem Lt {U : St} {R : cu -> St -> Prop} {w : AV} {L : List Nd} (hw : Hk U w L) (hl : L.length <= 10000) (fY : ∀ x ∈ L, x.text.length <= 3000) (h : R (.ret (.int .i64 (dI L))) U) : ae K 30 [.agg [w]] U R := by
 obtain ⟨x, hx, hs⟩ : ∃ x, [AV.agg [w]].map (resolve 5 U) = [.agg [x]] /\ Sl x L := by
  rcases hw with ⟨rfl, rfl⟩ | ⟨b, rfl, hb⟩
  · exact ⟨.ag, rfl, .inl ⟨rfl, rfl, rfl⟩, rfl⟩
  · refine ⟨.vec L.length .gl (bm L), ?_, .inr ⟨_, rfl⟩, sh L⟩
    show [AV.agg [resolve 4 U (.ms b 0 L.length 6 43)]] = _
    rw [wx hb, wy]
 exact ae.E8 5 qK (args0 := [.agg [x]]) (fun g vs hr => by rw [hx] at hr; exact hr) (by simp [bS, hs.cl]) rfl (oQ hs.s hs.c hl fY) h
theorem S9 {b n q : Nat} {kq : AV -> Prop} (hj : q < n) (h : kq (.box b (q * 6))) : ai K (aP (some (43, 6)) none (.ms b 0 n 6 43) (.int .i64 (q : Nat))) kq := by
 rw [GD, eG, cD]
 exact ⟨⟨by omega, by omega, rfl⟩, h⟩
theorem PN {L : List Nd} {q : Nat} {x : Nd} (h : L[q]? = some x) : ∃ r, (bm L).drop (q * 6 + 5) = .int .i64 x.size :: r := by
 obtain ⟨r, hr⟩ := rN h
 refine ⟨r, ?_⟩
 rw [<- List.drop_drop, hr]; rfl
theorem Sl.Of {v : AV} {l : List Nd} (h : Sl v l) : v.cC = true /\ au v = [v] := by
 rcases h.s with ⟨_, _, rfl⟩ | ⟨c, rfl⟩ <;> exact ⟨rfl, rfl⟩
theorem DZ (p i : Nat) (d : Int) (j : Nat) (x : Nd) : (gY p i d j x).text = x.text := by unfold gY; split <;> rfl
theorem vT {l : List Nd} {p : Nat} {ns : List Nd} (h1 : ∀ x ∈ l, x.text.length <= 3000) (h2 : ∀ x ∈ ns, x.text.length <= 3000) : ∀ x ∈ dc l p ns, x.text.length <= 3000 := by
 intro x hx
 unfold dc at hx
 rw [eH, eH] at hx
 rcases hx with (hx | hx) | hx
 · have := List.mem_of_mem_take hx
   unfold gy at this
   obtain ⟨j, hj, rfl⟩ := List.mem_mapIdx.1 this
   rw [DZ]; exact h1 _ (zq hj)
 · exact h2 x hx
 · exact h1 x (List.mem_of_mem_drop hx)
theorem FI (l : List Nd) (p : Nat) (ns : List Nd) : (dc l p ns).length <= l.length + ns.length + l.length := by
 unfold dc; simp [fG]; omega
section
variable {v : AV} {t : Tre}
theorem IZ {U : St} {R : cu -> St -> Prop} {bp bn p : Nat} {vn : AV} {ns : List Nd} (hv : Sl v t.flat) (hn : Sl vn ns) (hl : t.flat.length <= 1000) (xV : ns.length <= 1000) (fY : ∀ x ∈ t.flat, x.text.length <= 3000) (Ci : ∀ x ∈ ns, x.text.length <= 3000) (hp : p < t.flat.length)
 (mp : U.box bp = some [.int .i64 (p : Nat)]) (mn : U.box bn = some [vn])
 (h : ∀ ad w, cm U ad -> Hk ad w (dc t.flat p ns) -> (∀ b, w = .ms b 0 (dc t.flat p ns).length 6 43 -> U.live b = none) -> R (.ret (.aN [.agg [w], .int .i64 (dI (dc t.flat p ns))])) ad) : ae K 94 [.agg [v], .box bp 0, .box bn 0] U R := by
 refine MU ?_
 unfold OP
 rw [eC rfl]
 intro b3 gS
 have m3 : (U.new b3 (.box (au (.agg [v])))).box b3 = some [v] := aD
 have e1 := bj gS (x := .box (au (.agg [v])))
 have mp := e1.bf mp
 have mn := e1.bf mn
 generalize U.new b3 _ = bH at *
 rw [cw]
 intro b4 kB
 have m4 : (bH.new b4 (.box [AV.ag])).box b4 = some [.ag] := aD
 have f4 := e1.fresh kB.1
 have e2 := e1.new kB (x := .box [AV.ag])
 have en := bj kB (x := .box [AV.ag])
 have m3 := en.bf m3
 have mp := en.bf mp
 have mn := en.bf mn
 clear en
 generalize bH.new b4 _ = bJ at *
 obtain ⟨⟨s, _, hs, _⟩, _⟩ := place t hp
 obtain ⟨x, hx, _, EC, _⟩ := hs.mE
 have hle := hs.le
 have jy := s.cV
 have da := jG hs
 have bW : t.flat ≠ [] := fun e => by rw [e] at hp; simp at hp
 refine cI mp rfl (eA (eA (cI m3 rfl (cI mp rfl ?_))))
 refine YD (hv.lr _) hx (show (bD x)[5]? = some (.int .i64 x.size) from rfl) ?_
 rw [o0]
 refine ⟨aX (by omega) (by omega), ?_⟩
 have hb : ((p : Int) + x.size) = ((p + s.flat.length : Nat) : Int) := by omega
 rw [hb]
 refine eA (eA (cI m3 rfl (cI mp rfl ?_)))
 refine rS (a := 0) (b := p) hv.s bW (by omega) (by omega) (eJ _ _ _) (eT _) fun c1 => ?_
 refine cI mn rfl (eA (eA (cI m3 rfl ?_)))
 refine rS (a := p + s.flat.length) (b := t.flat.length) hv.s bW (by omega) (by omega) (eT _) (eJ _ _ _) fun c2 => ?_
 have B1 : (t.flat.take p).drop 0 = t.flat.take p := rfl
 have hl3 : (t.flat.take t.flat.length).drop (p + s.flat.length) = t.flat.drop (p + s.flat.length) := by rw [qS]
 rw [B1, hl3]
 obtain ⟨SU, IJ⟩ := hn.Of
 rw [sS]
 refine ⟨by decide, ?_⟩
 rw [oh (o := 0) (s := 1) rfl]
 refine ⟨⟨rfl, rfl, by simp [bw]⟩, ?_⟩
 rw [oh (o := 1) (s := 1) rfl]
 refine ⟨⟨SU, by rw [IJ]; rfl, by simp [bw, aw]⟩, ?_⟩
 rw [oh (o := 2) (s := 1) rfl]
 refine ⟨⟨rfl, rfl, by simp [bw, aw, IJ]⟩, ?_⟩
 rw [vG, IJ]
 refine ⟨by simp [bw, aw], ?_⟩
 rw [show (aw (aw (aw (bw 3 [AV.ag]) 0 (au (AV.vec (t.flat.take p).length c1 (bm (t.flat.take p))))) 1 [vn]) 2 (au (AV.vec (t.flat.drop (p + s.flat.length)).length c2 (bm (t.flat.drop (p + s.flat.length)))))) = [AV.vec (t.flat.take p).length c1 (bm (t.flat.take p)), vn, AV.vec (t.flat.drop (p + s.flat.length)).length c2 (bm (t.flat.drop (p + s.flat.length)))] from rfl]
 refine Hy (.inr ⟨_, rfl⟩) hn.s (.inr ⟨_, rfl⟩) (by simp; omega) fun c7 w e3 tG hw => ?_
 rw [bz]
 refine ⟨fun b cZ => ?_, ?_⟩
 · simp only [bV, iI, gH, eH, dA, List.not_mem_nil, or_false] at cZ
   cases qf : bJ.live b with
   | some y => rw [e3 _ _ qf]
   | none =>
     exfalso
     rcases cZ with rfl | rfl | rfl | rfl
     all_goals first | exact bR m3 qf | exact bR mp qf | exact bR mn qf
 have HY : t.flat.take p ++ ns ++ t.flat.drop (p + s.flat.length) = fO t.flat p p ns := by rw [vS, da]
 rw [HY] at hw tG
 have m3 := e3.bf m3
 have mp := e3.bf mp
 have mn := e3.bf mn
 have m4 := e3.bf m4
 refine eW mp rfl ?_
 have aaf : cm U c7 := e2.trans e3
 have xS : (fO t.flat p p ns).length = p + ns.length + (t.flat.length - (p + s.flat.length)) := by rw [vS, da]; simp; omega
 refine ⟨fun m v1 v2 Xw Xx v6 v7 v8 ad => ∃ (c : Nat) (w : AV), m = c /\ c <= p /\ (c = p \/ p < c + a8 t.flat c) /\ v1 = .box bp 0 /\ v2 = .box bn 0 /\ Xw = .box b3 0 /\ Xx = .box b4 0 /\ v6 = .int .i64 ((p + s.flat.length : Nat) : Int) /\ v7 = w /\ v8 = .int .i64 (c : Nat) /\
  (ad.box bp = some [.int .i64 (p : Nat)] /\ ad.box bn = some [vn] /\ ad.box b3 = some [v] /\ ad.box b4 = some [.ag]) /\ Hk ad w (fO t.flat p c ns) /\ (∀ b, w = .ms b 0 (fO t.flat p p ns).length 6 43 -> bJ.live b = none) /\ cm bJ ad,
  ⟨_, p, w, rfl, cG _, .inl rfl, rfl, rfl, rfl, rfl, rfl, rfl, rfl, ⟨mp, mn, m3, m4⟩, hw, tG, e3⟩, ?_⟩
 clear mp mn m3 m4 hw tG e3
 rintro m v1 v2 Xw Xx v6 v7 v8 cH ⟨c, w, rfl, ZV, X3, rfl, rfl, rfl, rfl, rfl, rfl, rfl, ⟨mp, mn, m3, m4⟩, hw, tG, e4⟩
 rw [eO, ah]
 refine ir (fun rC => ?_) fun aak => ?_
 · have h0 : 0 < m := by omega
   refine iV m3 (S6 hv.s sr (by omega) h0 (by omega) fun dy e5 => ?_)
   rw [bz]
   have hq := De (l := t.flat) (p := m) (m - 1)
   obtain ⟨x', gL⟩ : ∃ x', t.flat[kn t.flat m (m - 1)]? = some x' := ⟨t.flat[kn t.flat m (m - 1)]'(by omega), by simp [show kn t.flat m (m - 1) < t.flat.length by omega]⟩
   obtain ⟨r1, r2, r3, r4⟩ := GH (d := (ns.length : Int) - a8 t.flat p) hp ZV h0 X3 gL
   generalize kn t.flat m (m - 1) = q at *
   have aal := sr.2.2 q x' gL
   have NM := oT t.flat p m ns
   obtain ⟨b, rfl, hb⟩ : ∃ b, v7 = .ms b 0 (fO t.flat p m ns).length 6 43 /\ cH.box b = some (bm (fO t.flat p m ns)) := by
    rcases hw with ⟨hz, _⟩ | h
    · have := congrArg List.length hz
      rw [NM, xS] at this; simp at this; omega
    · exact h
   have um := tG b (by rw [NM])
   have xK := HM (p := p) (ns := ns) (by omega) (by omega) r4
   have hb := e5.bf hb
   have mp := e5.bf mp
   have mn := e5.bf mn
   have m3 := e5.bf m3
   have m4 := e5.bf m4
   obtain ⟨rr, hrr⟩ := PN xK
   refine S9 (by omega) (eA (cI hb hrr (cI mn rfl ?_)))
   rw [hn.s.len, aC]
   refine cI mp rfl ?_
   rw [dP, db, fq, aC]
   refine ⟨aX (by omega) (by omega), ?_⟩
   rw [dP, db, fq, aC]
   refine ⟨aX (by omega) (by omega), ?_⟩
   rw [o0]
   refine ⟨aX (by omega) (by omega), ?_⟩
   refine S9 (by omega) (eA ?_)
   rw [cF hb]
   refine ⟨⟨rfl, rfl, by rw [eS]; omega⟩, ?_⟩
   have hd : (x'.size + ((ns.length : Int) - (((p + s.flat.length : Nat) : Int) - (p : Nat)))) = x'.size + ((ns.length : Int) - a8 t.flat p) := by omega
   rw [hd]
   have zX : aw (bm (fO t.flat p m ns)) (q * 6 + 5) (au (.int .i64 (x'.size + ((ns.length : Int) - a8 t.flat p)))) = bm (fO t.flat p q ns) := by
    rw [show au (AV.int .i64 (x'.size + ((ns.length : Int) - a8 t.flat p))) = [.int .i64 (x'.size + ((ns.length : Int) - a8 t.flat p))] from rfl,
     C4 (y := { x' with size := x'.size + ((ns.length : Int) - a8 t.flat p) }) xK (fun C => by simp [aw, bD]), FH (by omega) (by omega), r1]
    rfl
   rw [zX]
   have nb : ∀ {bb y}, bJ.box bb = some y -> bb ≠ b := fun hy e => bR hy (e ▸ um)
   have np : bp ≠ b := nb (by assumption : bJ.box bp = some [.int .i64 (p : Nat)])
   have nn : bn ≠ b := nb (by assumption : bJ.box bn = some [vn])
   have n3 : b3 ≠ b := nb (by assumption : bJ.box b3 = some [v])
   have n4 : b4 ≠ b := nb (by assumption : bJ.box b4 = some [AV.ag])
   refine ⟨q, by omega, q, _, rfl, by omega, .inr (by omega), rfl, rfl, rfl, rfl, rfl, rfl, rfl, ⟨?_, ?_, ?_, ?_⟩, .inr ⟨b, by rw [NM, oT t.flat p q ns], aR⟩, tG, (e4.trans e5).set um⟩
   · rw [aE np]; exact mp
   · rw [aE nn]; exact mn
   · rw [aE n3]; exact m3
   · rw [aE n4]; exact m4
 · have B5 : m = 0 := by omega
   subst B5
   rw [qL] at hw
   have ED : v7.cC = true /\ au v7 = [v7] := by rcases hw with ⟨_, rfl⟩ | ⟨b, rfl, _⟩ <;> exact ⟨rfl, rfl⟩
   refine pc [v7] (by simp [wO, ED, aw]) ?_
   rw [cw]
   intro b9 vW
   have m9 : (cH.new b9 (.box [AV.ag])).box b9 = some [.ag] := aD
   have Xl := vW.cn m4
   have en := bj vW (x := .box [AV.ag])
   have f9 : U.live b9 = none := (e2.trans e4).fresh vW.1
   have m4 := en.bf m4
   have SB : ∀ b, v7 = .ms b 0 (dc t.flat p ns).length 6 43 -> cH.box b = some (bm (dc t.flat p ns)) := fun b e => by
    rcases hw with ⟨_, rfl⟩ | ⟨b', rfl, h⟩
    · cases e
    · cases e; exact h
   rw [cF m9]
   refine ⟨⟨rfl, rfl, by simp⟩, ?_⟩
   have k9 : ((cH.new b9 (.box [AV.ag])).set b9 (.box (aw [AV.ag] 0 (au (.agg [v7]))))).box b9 = some [v7] := by rw [aR]; rfl
   have k4 : ((cH.new b9 (.box [AV.ag])).set b9 (.box (aw [AV.ag] 0 (au (.agg [v7]))))).box b4 = some [.ag] := by rw [aE Xl]; exact m4
   have e9 : cm U ((cH.new b9 (.box [AV.ag])).set b9 (.box (aw [AV.ag] 0 (au (.agg [v7]))))) := ((e2.trans e4).new vW).set f9
   have W6 : Hk ((cH.new b9 (.box [AV.ag])).set b9 (.box (aw [AV.ag] 0 (au (.agg [v7]))))) v7 (dc t.flat p ns) := by
    rcases hw with h | ⟨b', rfl, h⟩
    · exact .inl h
    · exact .inr ⟨b', rfl, by rw [aE (vW.cn h)]; exact en.bf h⟩
   generalize (cH.new b9 (.box [AV.ag])).set b9 _ = nr at *
   show ai K _ _
   rw [sT k9]
   refine ⟨by simp, ?_⟩
   rw [sT k9]
   refine ⟨by simp, ?_⟩
   have NM := FI t.flat p ns
   refine Lt W6 (by omega) (vT fY Ci) ?_
   rw [bz]
   refine ⟨fun _ _ => rfl, ?_⟩
   rw [cF k4]
   refine ⟨⟨rfl, rfl, by simp⟩, ?_⟩
   refine ⟨fun b' cZ => ?_, ?_⟩
   · simp only [bV, iI, gH, eH, dA, List.not_mem_nil, or_false] at cZ
     have BU : b' = b9 := by rcases cZ with h | h <;> exact h
     rw [BU, dL, if_neg Xl.symm]
   rw [nV aR]
   refine ⟨by simp [aw], al.mk (h _ v7 (e9.set f4) ?_ ?_)⟩
   · rcases W6 with h | ⟨b', rfl, h⟩
     · exact .inl h
     · refine .inr ⟨b', rfl, ?_⟩
       rw [aE]; exact h
       intro e
       have := tG b' (by rw [<- qL, oT])
       exact bR (by assumption : bJ.box b4 = some [AV.ag]) (e ▸ this)
   · intro b e
     have := tG b (by rw [e, <- qL, oT])
     exact e2.fresh this
end
end Go.Rip
namespace Go.Rip
open Go.Proofs Go.RowKit
section
variable {v vn : AV} {l ns : List Nd}
theorem FJ (hv : Sl v l) (hn : Sl vn ns) (hl : l.length <= 1000) (xV : ns.length <= 1000) (fY : ∀ x ∈ l, x.text.length <= 3000) (Ci : ∀ x ∈ ns, x.text.length <= 3000) (p : Int) : Pure K 50 [.agg [v], .int .i64 p, vn] (.aN [.agg [dZ (eP l p ns).1], .int .i64 (eP l p ns).2]) := by
 refine Pure.Oj (by simp [bS, hv.cl, hn.c, show closed (.int .i64 p) = true from rfl]) (by simp [closed, bS, qI]) fun R hR => ?_
 refine MG ?_
 unfold OB
 obtain ⟨SU, IJ⟩ := hn.Of
 rw [eC rfl]
 intro b1 fC
 have m1 : ((br ⟨.e, 0⟩).new b1 (.box (au (.agg [v])))).box b1 = some [v] := aD
 generalize (br _).new b1 _ = ay at *
 rw [eC rfl]
 intro b2 jO
 have m2 : (ay.new b2 (.box (au (.int .i64 p)))).box b2 = some [.int .i64 p] := aD
 have m1 := (bj jO (x := .box (au (.int .i64 p)))).bf m1
 generalize ay.new b2 _ = bH at *
 rw [eC SU]
 intro b3 gS
 have m3 : (bH.new b3 (.box (au vn))).box b3 = some [vn] := by rw [aD, IJ]
 have en := bj gS (x := .box (au vn))
 have m1 := en.bf m1
 have m2 := en.bf m2
 generalize bH.new b3 _ = bJ at *
 rw [cw]
 intro b4 kB
 have m4 : (bJ.new b4 (.box [AV.ag])).box b4 = some [.ag] := aD
 have en := bj kB (x := .box [AV.ag])
 have m1 := en.bf m1
 have m2 := en.bf m2
 have m3 := en.bf m3
 generalize bJ.new b4 _ = c7 at *
 clear en
 refine iV m1 (eW m2 rfl ?_)
 have fin : ∀ (x : AV) (e : Int) (ad : St), ad.box b4 = some [.ag] -> x.cC = true -> au x = [x] -> (∀ z, resolve 3 (ad.set b4 (.box z)) x = dZ (eP l p ns).1) -> e = (eP l p ns).2 -> ar (fun v11 U => (aV v11 0).wp K U (fun v12 U => (aV v11 1).wp K U (fun cb U => (aF (some (true, 1)) (.box b4 0) v12 U).wp K U (fun _ U => bA (some (true, 1)) (.box b4 0) U fun r0 => al R (AV.aN [r0, cb]) U) (aa R)) (aa R)) (aa R)) (aa R) (.ret (.aN [.agg [x], .int .i64 e])) ad := by
  intro x e ad hb hx1 hx2 hr he
  subst he
  simp only [bz, bL, List.drop, bB]
  rw [cF hb]
  refine ⟨⟨rfl, rfl, by simp⟩, ?_⟩
  rw [nV aR]
  refine ⟨by simp [aw], al.mk (hR _ _ ?_)⟩
  show AV.aN [.agg [resolve 3 _ x], _] = _
  rw [hr]; rfl
 refine TF (fs := []) (cs := [.box b2 0, .box b3 0]) hv (by omega) fY (by kernel_rfl) (fun ha cH e4 => ?_) (fun ha cH b6 e4 f6 m6 => ?_)
 · have hu : eP l p ns = ([], gA l p) := by unfold eP; rw [if_pos ha]
   exact fin _ _ _ (e4.bf m4) rfl rfl (fun z => by rw [hu]; rfl) (by rw [hu])
 have Oi : b4 ≠ b6 := fun e => bR m4 (e ▸ f6)
 have m2 := e4.bf m2
 have m3 := e4.bf m3
 have m4 := e4.bf m4
 obtain ⟨n, t, s, rfl, rfl, h1, h2, h3, hs⟩ := zJ ha
 show ae K 94 [.agg [v], .box b2 0, .box b3 0] cH _
 refine IZ hv hn hl xV fY Ci h3 m2 m3 fun dy w e5 hw tG => ?_
 have ED : w.cC = true /\ au w = [w] := by rcases hw with ⟨_, rfl⟩ | ⟨b, rfl, _⟩ <;> exact ⟨rfl, rfl⟩
 have hg : eP t.flat n ns = if dI (dc t.flat n ns) ≠ 0 then ([], dI (dc t.flat n ns)) else (dc t.flat n ns, 0) := by
  unfold eP; rw [if_neg (by simp [ha]), eG]
 have m4 := e5.bf m4
 refine ⟨w, _, rfl, ED.1, ED.2, e5.bf m6, fun bW jN hk => ?_, fun he z1 z2 => ?_⟩
 · rw [if_pos bW] at hg
   exact fin _ _ _ (hk _ _ Oi m4) rfl rfl (fun z => by rw [hg]; rfl) (by rw [hg])
 · rw [if_neg (by simp [he])] at hg
   refine fin _ _ _ (by rw [aE Oi, aE Oi]; exact m4) ED.1 ED.2 (fun z => ?_) (by rw [hg])
   rw [hg]
   rcases hw with ⟨h0, rfl⟩ | ⟨b, rfl, hb⟩
   · rw [h0]; rfl
   · have nb := tG b rfl
     have n4b : b ≠ b4 := fun e => bR (by assumption : cH.box b4 = some [AV.ag]) (e ▸ nb)
     have Xm : b ≠ b6 := fun e => bR m6 (e ▸ nb)
     have bW : dc t.flat n ns ≠ [] := fun h0 => by
      rw [h0] at he
      unfold dI at he
      rw [if_neg (by simp), K2 (by rintro ⟨t', pz⟩; have := t'.cV; rw [<- pz] at this; simp at this)] at he
      cases he
     exact qU (by rw [aE n4b, aE Xm, aE Xm]; exact hb) bW
end
end Go.Rip
namespace Go.Rip
open Go.Proofs Go.RowKit
theorem ae.Ze {C : bX} {f : Nat} {args args' : List AV} {U : St} {R : cu -> St -> Prop} (hw : ∀ g vs, ax g args vs -> ax g args' vs) (h : ae C f args' U R) : ae C f args U R := fun g w vs hs hG ha => h g w vs hs hG (hw _ _ ha)
theorem ao.gl {g : Gh} {n : Nat} {c : hX} {l : List AV} {v : Value} (h : ao g (.vec n c l) v) : ao g (.vec n .gl l) v := by
 simp only [ao] at h ⊢
 obtain ⟨aB, off, c', vs, h1, h2, h3, h4, h5⟩ := h
 exact ⟨aB, off, c', vs, h1, h2, h3, trivial, h5⟩
end Go.Rip
namespace Go.Rip
open Go.Proofs Go.RowKit
theorem GI (l : List Nd) (p i : Nat) : gy l p i 0 = l := by
 refine List.ext_getElem? fun j => ?_
 cases hy : l[j]? with
 | none => rw [mb (by rw [fG]; exact List.getElem?_eq_none_iff.1 hy)]
 | some y =>
   rw [kN hy]
   unfold gY
   split
   · rw [Int.add_zero]
   · rfl
section
variable {t : Tre} {n m : Nat}
theorem Pt (h : dI t.flat = 0) : t.flat.length <= 900 := by
 refine Nat.le_of_not_lt fun h' => ?_
 unfold dI at h; rw [if_pos h'] at h; cases h
theorem pO (h : dI t.flat = 0) (hn : n < t.flat.length) : gA t.flat n = 0 /\ ct t.flat n = (t.flat.drop n).take (a8 t.flat n) /\ (ct t.flat n).length = a8 t.flat n /\ 1 <= a8 t.flat n /\ n + a8 t.flat n <= t.flat.length := by
 have ha : gA t.flat n = 0 := yR h (by omega)
 obtain ⟨⟨s, _, hs, _⟩, _⟩ := place t hn
 have := hs.le
 have := jG hs
 have := s.cV
 have e : ct t.flat n = (t.flat.drop n).take (a8 t.flat n) := by unfold ct; rw [if_pos ha, eG]
 refine ⟨ha, e, ?_, by omega, by omega⟩
 rw [e, List.length_take, List.length_drop]; omega
theorem FL (h : dI t.flat = 0) (hn : n < t.flat.length) : eP t.flat n (ct t.flat n) = (t.flat, 0) := by
 obtain ⟨ha, e, hl, h1, h2⟩ := pO h hn
 have hg : dc t.flat n (ct t.flat n) = t.flat := by
  unfold dc
  rw [hl, Int.sub_self, GI, e, kf, <- List.drop_drop, List.take_append_drop, List.take_append_drop]
 unfold eP
 rw [if_neg (by simp [ha]), eG, hg, if_neg (by simp [h])]
theorem DI (h : dI t.flat = 0) (hn : n < t.flat.length) (hm : m < t.flat.length) :
 (eP t.flat n (ct t.flat m)).2 ≠ 0 /\ ((eP t.flat n (ct t.flat m)).2 = 4 \/ (eP t.flat n (ct t.flat m)).2 = 5) \/
 ∃ u : Tre, eP t.flat n (ct t.flat m) = (u.flat, 0) /\ dI u.flat = 0 /\ u.flat = dc t.flat n (ct t.flat m) /\ n < u.flat.length /\ ct u.flat n = ct t.flat m /\ u.flat.length + a8 t.flat n = t.flat.length + (ct t.flat m).length /\ a8 u.flat n = (ct t.flat m).length /\ u.flat.drop (n + (ct t.flat m).length) = t.flat.drop (n + a8 t.flat n) := by
 obtain ⟨ha, e, hl, h1, h2⟩ := pO h hn
 obtain ⟨hma, me, ml, m1, m2⟩ := pO h hm
 have hg : eP t.flat n (ct t.flat m) = if dI (dc t.flat n (ct t.flat m)) ≠ 0 then ([], dI (dc t.flat n (ct t.flat m))) else (dc t.flat n (ct t.flat m), 0) := by
  unfold eP; rw [if_neg (by simp [ha]), eG]
 by_cases hc : dI (dc t.flat n (ct t.flat m)) = 0
 · rw [if_neg (by simp [hc])] at hg
   have h9 : ¬ 900 < (dc t.flat n (ct t.flat m)).length := fun h' => by unfold dI at hc; rw [if_pos h'] at hc; cases hc
   have : ∃ u : Tre, dc t.flat n (ct t.flat m) = u.flat /\ u.kind = 1 /\ u.ok = true := Classical.not_not.1 fun h' => by rw [oR h9 h'] at hc; cases hc
   obtain ⟨u, hu, _, _⟩ := this
   refine .inr ⟨u, by rw [hg, hu], by rw [<- hu]; exact hc, hu.symm, ?_⟩
   have Sd : ∃ x r, ct t.flat m = x :: r /\ x.size = (ct t.flat m).length := by
    obtain ⟨⟨s, _, hs, _⟩, _⟩ := place t hm
    obtain ⟨x, hx, _, EC, _⟩ := hs.mE
    have da := jG hs
    refine ⟨x, (t.flat.drop (m + 1)).take (a8 t.flat m - 1), ?_, by rw [ml]; omega⟩
    rw [me, gp hm]
    obtain ⟨k, hk⟩ : ∃ k, a8 t.flat m = k + 1 := ⟨a8 t.flat m - 1, by omega⟩
    rw [hk, List.take_succ_cons]
    have : t.flat[m] = x := (dx.1 hx).2
    rw [this]; rfl
   obtain ⟨x, r, hxr, hxs⟩ := Sd
   have N6 : ((gy t.flat n 0 (((ct t.flat m).length : Int) - a8 t.flat n)).take n).length = n := by rw [List.length_take, fG]; omega
   have hlen : u.flat.length = n + (ct t.flat m).length + (t.flat.length - (n + a8 t.flat n)) := by
    rw [<- hu]; unfold dc
    rw [ep, ep, N6, List.length_drop]
   have hdn : u.flat.drop n = ct t.flat m ++ t.flat.drop (n + a8 t.flat n) := by
    rw [<- hu]; unfold dc
    rw [kf, List.drop_left' N6]
   have N5 : a8 u.flat n = (ct t.flat m).length := by
    have : u.flat[n]? = some x := by
     have h0 : (u.flat.drop n)[0]? = some x := by rw [hdn, hxr]; rfl
     simpa using h0
    rw [mA this]; omega
   have Eu : n < u.flat.length := by omega
   have BV : dI u.flat = 0 := by rw [<- hu]; exact hc
   obtain ⟨_, ue, _, _, _⟩ := pO BV Eu
   refine ⟨Eu, ?_, by omega, N5, ?_⟩
   · rw [ue, N5, hdn, List.take_left]
   · rw [<- List.drop_drop, hdn, List.drop_left]
 · rw [if_pos hc] at hg
   refine .inl ?_
   rw [hg]
   refine ⟨hc, ?_⟩
   show dI _ = 4 \/ dI _ = 5
   generalize dc t.flat n (ct t.flat m) = w at hc ⊢
   unfold dI at hc ⊢
   split
   · exact .inr rfl
   · rename_i h9
     rw [if_neg h9] at hc
     split
     · exact .inl rfl
     · rename_i t' pz
       rw [pz] at hc
       simp only at hc
       unfold yW at hc ⊢
       split
       · exact .inl rfl
       · rename_i h3
         rw [if_neg h3] at hc
         split
         · exact .inr rfl
         · rename_i h4; rw [if_neg h4] at hc; exact absurd rfl hc
theorem LL (hn : n < t.flat.length) {ns : List Nd} {i : Nat} (hi : i < n) {x : Nd} (hx : t.flat[i]? = some x) : (dc t.flat n ns)[i]? = some (gY n 0 ((ns.length : Int) - a8 t.flat n) i x) := by
 unfold dc
 rw [kf, pL (by rw [List.length_take, fG]; omega), List.getElem?_take, if_pos hi, kN hx]
end
theorem P9 {v1 v2 : AV} {l1 l2 : List Nd} (c1 : Sl v1 l1) (c2 : Sl v2 l2) (h1 : l1.length <= 1000000) (h2 : l2.length <= 1000000) : Pure K 22 [.agg [v1], .agg [v2]] (.bool (decide (l1 = l2))) := by
 refine Pure.of (by simp [bS, c1.cl, c2.cl]) rfl (fun U => rfl) fun R hR => ?_
 refine My ?_
 unfold Ot
 have k1 := c1.Of.2
 have k2 := c2.Of.2
 rw [eC rfl]
 intro b1 fC
 rw [eC rfl]
 intro b2 jO
 have m1 : ((br ⟨.e, 0⟩).new b1 (.box (au (.agg [v1])))).box b1 = some [v1] := aD
 have SO := (bj jO (x := .box (au (.agg [v2])))).bf m1
 have m2 : (((br ⟨.e, 0⟩).new b1 (.box (au (.agg [v1])))).new b2 (.box (au (.agg [v2])))).box b2 = some [v2] := aD
 generalize ((br _).new b1 _).new b2 _ = U at *
 simp only [aU, ah, cD]
 refine eW SO rfl ?_
 refine eW m2 rfl ?_
 exact Fa (c1.lr _) (c2.lr _) h1 h2 (al.mk (hR _))
theorem E9 {v1 v2 : AV} {l1 l2 : List Nd} (c1 : eN v1 l1.length (bm l1)) (c2 : eN v2 l2.length (bm l2)) (h1 : l1.length <= 1000000) (h2 : l2.length <= 1000000) : Pure K 47 [v1, v2] (.bool (decide (l1 = l2))) := fun U R hR => Fa c1.uC c2.uC h1 h2 hR
theorem K5 {a : Int} (h : (Lit.int .u16 a).wf = true) : 0 <= a /\ a <= 65535 := by
 simp only [Lit.wf, bM, dD] at h
 exact h
theorem Eb {U : St} {v1 : AV} {ns : List Nd} {K' : AV -> St -> Prop} {Kp : AV -> St -> Prop} (hn : eN v1 ns.length (bm ns)) (hl : ns.length <= 100000)
 (h : ∀ y ad, cm U ad -> (∀ g u, ao g y u -> ao g (dZ ns) u) -> K' y ad) : (dS (some (43, 6)) false AV.ag v1 U).wp K U K' Kp := by
 refine Di (hn.uC (U := U)).src (by rw [eS]; omega) (by omega) (fun h0 => ?_) (fun _ h => nomatch h) (fun h0 _ b hb => ?_)
 · refine h _ _ (cm.refl U) fun g u hr => ?_
   have : ns = [] := pK.1 h0
   subst this
   exact hr
 · refine h _ _ (bj hb) fun g u hr => ?_
   have : ns ≠ [] := fun e => by subst e; exact h0 rfl
   unfold dZ
   rw [if_neg this]
   exact ao.gl hr
theorem BL {U : St} {v y : AV} {l ns : List Nd} {p : Int} {K' : AV -> St -> Prop} {Kp : AV -> St -> Prop} (cv : Sl v l) (hl : l.length <= 1000) (xV : ns.length <= 1000) (fY : ∀ x ∈ l, x.text.length <= 3000) (Ci : ∀ x ∈ ns, x.text.length <= 3000)
 (hy : ∀ g u, ao g y u -> ao g (dZ ns) u) (h : K' (.aN [.agg [dZ (eP l p ns).1], .int .i64 (eP l p ns).2]) U) : ae K 50 [.agg [v], .int .i64 p, y] U (ar K' Kp) := by
 refine ae.Ze (args' := [.agg [v], .int .i64 p, dZ ns]) (fun g vs h => ?_) ((FJ cv (nJ ns) hl xV fY Ci p).go h)
 simp only [ax] at h ⊢
 obtain ⟨u1, us1, e1, r1, u2, us2, e2, r2, u3, us3, e3, r3, r4⟩ := h
 exact ⟨u1, us1, e1, r1, u2, us2, e2, r2, u3, us3, e3, hy g u3 r3, r4⟩
theorem AH {l : List Nd} {p : Int} (h : ∀ x ∈ l, x.text.length <= 3000) : ∀ x ∈ ct l p, x.text.length <= 3000 := by
 intro x hx
 unfold ct at hx
 split at hx
 · exact h x (List.mem_of_mem_drop (List.mem_of_mem_take hx))
 · cases hx
theorem Fe {a : Int} {n : Nat} (h : 0 <= a) (hn : 0 < n) : ∃ k : Nat, a.tmod n = (k : Int) /\ k < n := by
 obtain ⟨b, rfl⟩ := Int.eq_ofNat_of_zero_le h
 refine ⟨b % n, ?_, Nat.mod_lt _ hn⟩
 rw [Int.tmod_eq_emod_of_nonneg h]
 omega
end Go.Rip
namespace Go.Rip
open Go.Proofs Go.RowKit
theorem On {bt : BT} {l : Bool} {a b : Int} {k : AV -> Prop} : ai K (av .rem bt l (.int .i64 a) (.int .i64 b)) k = (b ≠ 0 /\ k (.int .i64 (a.tmod b))) := by rw [Dw]; rfl
theorem Hz {a : Int} {k : AV -> Prop} (h : pX a) (hk : k (.int .i64 a)) : ai K (si (some .i64) true false false (.int .u16 a)) k := ⟨h, hk⟩
theorem BM {v : AV} {l : List Nd} (hv : Sl v l) (a : Int) (hwa : (Lit.int .u16 a).wf = true) (b : Int) (tG : (Lit.int .u16 b).wf = true) : Pure K 15 [.agg [v], .int .u16 a, .int .u16 b] (.bool true) := by
 obtain ⟨HS, BQ⟩ := K5 hwa
 obtain ⟨tA, fC⟩ := K5 tG
 refine Pure.of (by simp [bS, hv.cl, show ∀ z, closed (.int .u16 z) = true from fun _ => rfl]) rfl (fun U => rfl) fun R hR => ?_
 refine Mx ?_
 unfold Oq
 rw [eC rfl]
 intro b3 gS
 have m3 : ((br ⟨.e, 0⟩).new b3 (.box (au (.agg [v])))).box b3 = some [v] := aD
 generalize (br _).new b3 _ = ay at *
 intro j hj
 refine iV m3 ((KX hv).go ?_)
 simp only [dt, ah]
 cases ht : nW l with
 | false =>
   simp only [dR, aW, show (true == false) = false from rfl, aM, cc]
   refine dF (dF ?_)
   refine hj _ _ _ _ _ ?_
   exact dq (mF.go (al.mk (hR _)))
 | true =>
 obtain ⟨hl, fY⟩ := u4.1 ht
 have fY : ∀ x ∈ l, x.text.length <= 3000 := fun x hx => by have := fY x hx; omega
 have cl := zO hv (by omega)
 have cv := nJ l
 simp only [cq, aW, fK, aM, bZ]
 rw [sT m3]
 refine ⟨by simp, dq (cl.go (dq ((oQ cv.s cv.c (by omega) fY).go ?_)))⟩
 rw [cO, aC]
 simp only [aJ, bu, if_false, ah]
 refine hj _ _ _ _ _ ?_
 by_cases hc : dI l = 0
 rotate_left
 · simp only [hc, dz, dR]
   exact dq (mF.go (al.mk (hR _)))
 simp only [hc, cX, cq]
 refine dF ?_
 clear hj j
 have h9 : ¬ 900 < l.length := fun h' => by unfold dI at hc; rw [if_pos h'] at hc; cases hc
 have : ∃ t : Tre, l = t.flat /\ t.kind = 1 /\ t.ok = true := Classical.not_not.1 fun h' => by rw [oR h9 h'] at hc; cases hc
 obtain ⟨t, rfl, _, _⟩ := this
 have jy := t.cV
 obtain ⟨n, B7, hn⟩ := Fe HS jy
 obtain ⟨m, hmb, hm⟩ := Fe tA jy
 obtain ⟨na, ne, nl, n1, n2⟩ := pO hc hn
 obtain ⟨ma, me, ml, mm1, mm2⟩ := pO hc hm
 have vu := FL hc hn
 have Ci := AH (p := (n : Int)) fY
 have W1 := AH (p := (m : Int)) fY
 have xV : (ct t.flat n).length <= 1000 := by omega
 have Sn : (ct t.flat m).length <= 1000 := by omega
 have sn := nJ (ct t.flat n)
 have sm := nJ (ct t.flat m)
 refine Hz (aX (by omega) (by omega)) (eA (cI m3 rfl ?_))
 rw [hv.s.len, aC, On, B7]
 refine ⟨by omega, Hz (aX (by omega) (by omega)) (eA (cI m3 rfl ?_))⟩
 rw [hv.s.len, aC, On, hmb]
 refine ⟨by omega, iV m3 (cl.go ((xn cv (by omega) fY n).go ?_))⟩
 simp only [bL, List.drop, bB]
 refine iV m3 (cl.go ?_)
 refine Eb sn.s (by omega) fun y1 bH e1 hy1 => ?_
 have m3 := e1.bf m3
 refine BL cv hl xV fY Ci hy1 ?_
 rw [vu]
 simp only [bL, List.drop, bB]
 rw [cw]
 intro eX nD
 have m11 : (bH.new eX (.box [AV.ag])).box eX = some [.ag] := aD
 have n113 := nD.cn m3
 have m3 := (bj nD (x := .box [AV.ag])).bf m3
 generalize bH.new eX (.box [AV.ag]) = bJ at *
 rw [cF m11]
 refine ⟨⟨rfl, rfl, by simp⟩, ?_⟩
 have m3 : (bJ.set eX (.box (aw [AV.ag] 0 (au (.agg [dZ t.flat]))))).box b3 = some [v] := by rw [aE n113]; exact m3
 have m11 : (bJ.set eX (.box (aw [AV.ag] 0 (au (.agg [dZ t.flat]))))).box eX = some [dZ t.flat] := by rw [aR]; rfl
 generalize bJ.set eX _ = c7 at *
 rw [na]
 simp only [cO, ah, aC, cX, cq, aW, fK, aM, bZ, aJ, bu, if_false]
 rw [sT m3]
 refine ⟨by simp, ?_⟩
 rw [sT m11]
 refine ⟨by simp, jX (show Pure K 22 _ (.bool true) from by simpa using P9 hv cv (by omega) (by omega)) ?_⟩
 simp only [dt, aC, cq, aJ, bu, if_false, ah]
 refine dF ?_
 refine iV m3 (cl.go ((xn cv (by omega) fY m).go ?_))
 simp only [bL, List.drop, bB]
 rw [ma]
 simp only [cO, ah, cX, cq]
 refine dF (iV m3 (cl.go ?_))
 refine Eb sm.s (by omega) fun y2 cH e4 SE => ?_
 have m3 := e4.bf m3
 refine BL cv hl Sn fY W1 SE ?_
 simp only [bL, List.drop, bB]
 rw [cw]
 intro lG RQ
 have m14 : (cH.new lG (.box [AV.ag])).box lG = some [.ag] := aD
 have n143 := RQ.cn m3
 have m3 := (bj RQ (x := .box [AV.ag])).bf m3
 generalize cH.new lG (.box [AV.ag]) = dy at *
 rw [cF m14]
 refine ⟨⟨rfl, rfl, by simp⟩, ?_⟩
 have m3 : (dy.set lG (.box (aw [AV.ag] 0 (au (.agg [dZ (eP t.flat n (ct t.flat m)).1]))))).box b3 = some [v] := by rw [aE n143]; exact m3
 have m14 : (dy.set lG (.box (aw [AV.ag] 0 (au (.agg [dZ (eP t.flat n (ct t.flat m)).1]))))).box lG = some [dZ (eP t.flat n (ct t.flat m)).1] := by rw [aR]; rfl
 generalize dy.set lG _ = ny at *
 rcases DI hc hn hm with ⟨h0, ZC⟩ | ⟨u, hu, BV, W3, Eu, N5, hlu, Ob, Z0⟩
 · simp only [cO, ah, decide_eq_false h0, dR]
   refine dq ?_
   rcases ZC with e | e
   · simp only [e, bl, ah, cX, aW, show (true == false) = false from rfl, aM, cc, aJ, if_true, fK, bZ]
     exact jX mF (al.mk (hR _))
   · simp only [e, bl, ah, aC, show decide ((5 : Int) = 4) = false from rfl, cX, aW, fK, aM, bZ, aJ, if_true, bu, if_false]
     exact jX mF (al.mk (hR _))
 rw [hu] at m14 ⊢
 have hul := Pt BV
 have su := nJ u.flat
 have Yo : ∀ x ∈ u.flat, x.text.length <= 3000 := by rw [W3]; exact vT fY W1
 obtain ⟨una, _, _, _, _⟩ := pO BV Eu
 simp only [cO, ah, cX, cq]
 refine dF (iV m14 ((zO su (by omega)).go ((xn (nJ _) (by omega) Yo n).go ?_)))
 simp only [bL, List.drop, bB]
 rw [una, N5]
 simp only [cO, ah, aC, cX, cq, aW, fK, aM, bZ, aJ, bu, if_false]
 refine jX (show Pure K 47 _ (.bool true) from by simpa using E9 sm.s sm.s (by omega) (by omega)) ?_
 simp only [dt, aC, cq, aJ, bu, if_false, ah, aW, fK, aM, bZ]
 refine eA (cI m14 rfl ?_)
 rw [su.s.len, aC]
 refine eA (cI m3 rfl ?_)
 rw [hv.s.len, aC, sm.s.len, aC, o0]
 refine ⟨aX (by omega) (by omega), ?_⟩
 rw [sn.s.len, aC, VN]
 refine ⟨aX (by omega) (by omega), ?_⟩
 rw [cO, aC, decide_eq_true (show (u.flat.length : Int) = t.flat.length + (ct t.flat m).length - (ct t.flat n).length by omega)]
 simp only [cq, aJ, bu, if_false, ah]
 refine dF ?_
 have bW : t.flat ≠ [] := fun e => by rw [e] at jy; simp at jy
 have Yf : u.flat ≠ [] := fun e => by rw [e] at Eu; simp at Eu
 refine ⟨fun k w3 w7 w9 wI Pe Pf ad => ∃ i : Nat, k = n - i /\ i <= n /\ w3 = .box b3 0 /\ w7 = .int .i64 (n : Nat) /\ w9 = dZ (ct t.flat n) /\ wI = dZ (ct t.flat m) /\ Pe = .box lG 0 /\ Pf = .int .i64 (i : Nat) /\ ad.box b3 = some [v] /\ ad.box lG = some [dZ u.flat],
  ⟨_, 0, rfl, by omega, rfl, rfl, rfl, rfl, rfl, rfl, m3, m14⟩, ?_⟩
 clear m3 m14
 rintro k w3 w7 w9 wI Pe Pf gz ⟨i, rfl, hi, rfl, rfl, rfl, rfl, rfl, rfl, m3, m14⟩
 rw [bP, ah]
 refine ir (fun aK => ?_) fun hY => ?_
 · have aK : i < n := by omega
   obtain ⟨x, hx⟩ : ∃ x, t.flat[i]? = some x := ⟨t.flat[i]'(by omega), by simp [show i < t.flat.length by omega]⟩
   have hxz := sr.2.2 i x hx
   obtain ⟨y, hy, Ad⟩ : ∃ y, u.flat[i]? = some y /\ y = gY n 0 (((ct t.flat m).length : Int) - a8 t.flat n) i x := ⟨_, by rw [W3]; exact LL hn aK hx, rfl⟩
   have post : ∀ (iM jq : Nat) (lS : St), iM ≠ jq -> gz.live iM = none -> gz.live jq = none -> cm gz lS -> (∃ z, lS.box iM = some z /\ z.length = 6) -> (∃ z, lS.box jq = some z /\ z.length = 6) ->
    (aF (some (true, 6)) (.box iM 0) (.agg (bD x)) lS).wp K lS (fun _ U => bG [b3, lG] gz U /\
    (aF (some (true, 6)) (.box jq 0) (.agg (bD y)) U).wp K U (fun _ U =>
    gC 8 (fun Nx jL jn nX G0 G1 G2 G3 U =>
     (aq (some (true, 6)) G2 U).wp K U (fun v152 U =>
     (aq (some (true, 6)) G3 U).wp K U (fun Nw U =>
     (av .neq (BT.mk false false false (some [.i, .s, .i, .i, .i, .i]) false) false v152 Nw).wp K U (fun v154 U =>
     az v154 (
      al R (AV.bool false) U) (
      (av .add (BT.mk false false false none false) true G1 (AV.int .i64 1)).wp K U (fun ra U =>
      (fun w3 w7 w9 wI Pe Pf ad => ∃ m', m' < n - i /\ ∃ i : Nat, m' = n - i /\ i <= n /\ w3 = .box b3 0 /\ w7 = .int .i64 (n : Nat) /\ w9 = dZ (ct t.flat n) /\ wI = dZ (ct t.flat m) /\ Pe = .box lG 0 /\ Pf = .int .i64 (i : Nat) /\ ad.box b3 = some [v] /\ ad.box lG = some [dZ u.flat]) Nx jL jn nX G0 ra U) (aa R))) (aa R)) (aa R)) (aa R)) fun uB =>
    (af (some 5) (.box iM 0)).wp K U (fun v145 U =>
    (aq (some (false, 1)) v145 U).wp K U (fun v146 U =>
    (av .add (BT.mk false false false none false) false (.int .i64 (i : Nat)) v146).wp K U (fun Ns U =>
    (av .gtr (BT.mk false false false none false) false Ns (.int .i64 (n : Nat))).wp K U (fun Nt U =>
    az Nt (
     (af (some 5) (.box iM 0)).wp K U (fun Nu U =>
     (aF (some (false, 1)) Nu (AV.int .i64 0) U).wp K U (fun _ U =>
     (af (some 5) (.box jq 0)).wp K U (fun Nv U =>
     (aF (some (false, 1)) Nv (AV.int .i64 0) U).wp K U (fun _ U =>
     uB (.box b3 0) (.int .i64 (n : Nat)) (dZ (ct t.flat n)) (dZ (ct t.flat m)) (.box lG 0) (.int .i64 (i : Nat)) (.box iM 0) (.box jq 0) U) (aa R)) (aa R)) (aa R)) (aa R)) (
     uB (.box b3 0) (.int .i64 (n : Nat)) (dZ (ct t.flat n)) (dZ (ct t.flat m)) (.box lG 0) (.int .i64 (i : Nat)) (.box iM 0) (.box jq 0) U)) (aa R)) (aa R)) (aa R)) (aa R)) (aa R)) (aa R) := by
    intro iM jq lS hq f18 f19 e8 zV zW
    obtain ⟨z18, m18, l18⟩ := zV
    obtain ⟨XI, m19, l19⟩ := zW
    have n318 : b3 ≠ iM := fun e => bR m3 (e ▸ f18)
    have n319 : b3 ≠ jq := fun e => bR m3 (e ▸ f19)
    have Gt : lG ≠ iM := fun e => bR m14 (e ▸ f18)
    have Oh : lG ≠ jq := fun e => bR m14 (e ▸ f19)
    have m3 := e8.bf m3
    have m14 := e8.bf m14
    have Xs : ∀ (z : List AV) (w : Nd), z.length = 6 -> aw z 0 (au (.agg (bD w))) = bD w := fun z w hz => by
     have : (au (.agg (bD w))) = bD w := rfl
     rw [this]
     simp [aw, bD, hz]
    rw [cF m18]
    refine ⟨⟨rfl, rfl, by omega⟩, ?_, ?_⟩
    · intro b hb
      simp only [dA, List.not_mem_nil, or_false] at hb
      rcases hb with rfl | rfl
      · rw [dL, if_neg n318]
        cases e : gz.live b with
        | none => exact absurd e (bR ‹gz.box b = some [v]›)
        | some z => exact e8 _ _ e
      · rw [dL, if_neg Gt]
        cases e : gz.live b with
        | none => exact absurd e (bR ‹gz.box b = some [dZ u.flat]›)
        | some z => exact e8 _ _ e
    rw [Xs z18 x l18]
    rw [cF (show (lS.set iM (.box (bD x))).box jq = some XI by rw [aE hq.symm]; exact m19)]
    refine ⟨⟨rfl, rfl, by omega⟩, ?_⟩
    rw [Xs XI y l19]
    have m3 : ((lS.set iM (.box (bD x))).set jq (.box (bD y))).box b3 = some [v] := by rw [aE n319, aE n318]; exact m3
    have m14 : ((lS.set iM (.box (bD x))).set jq (.box (bD y))).box lG = some [dZ u.flat] := by rw [aE Oh, aE Gt]; exact m14
    have m18 : ((lS.set iM (.box (bD x))).set jq (.box (bD y))).box iM = some (bD x) := by rw [aE hq, aR]
    have m19 : ((lS.set iM (.box (bD x))).set jq (.box (bD y))).box jq = some (bD y) := aR
    generalize (lS.set iM (.box (bD x))).set jq (.box (bD y)) = nr at *
    intro j hj
    have tail : ∀ (w : Nd) (ad : St), ad.box b3 = some [v] -> ad.box lG = some [dZ u.flat] -> ad.box iM = some (bD w) -> ad.box jq = some (bD w) -> j (.box b3 0) (.int .i64 (n : Nat)) (dZ (ct t.flat n)) (dZ (ct t.flat m)) (.box lG 0) (.int .i64 (i : Nat)) (.box iM 0) (.box jq 0) ad := by
     intro w ad k3 k14 k18 k19
     refine hj _ _ _ _ _ _ _ _ _ ?_
     show (aq (some (true, 6)) (.box iM 0) ad).wp K ad _ _
     rw [nZ k18]
     refine ⟨by simp [bD], ?_⟩
     rw [nZ k19]
     refine ⟨by simp [bD], ?_⟩
     rw [show ((bD w).drop 0).take 6 = bD w from rfl, IH, ah, decide_eq_true rfl]
     refine dF ?_
     rw [c8]
     exact ⟨aX (by omega) (by omega), n - (i + 1), by omega, i + 1, rfl, by omega, rfl, rfl, rfl, rfl, rfl, by simp, k3, k14⟩
    refine tj (eW m18 rfl ?_)
    rw [c8]
    refine ⟨aX (by omega) (by omega), Dm (ir (fun rC => ?_) fun WV => ?_)⟩
    · refine tj ?_
      rw [cF m18]
      refine ⟨⟨rfl, rfl, by simp [bD]⟩, tj ?_⟩
      rw [cF (show (nr.set iM _).box jq = some (bD y) by rw [aE hq.symm]; exact m19)]
      refine ⟨⟨rfl, rfl, by simp [bD]⟩, ?_⟩
      have e1 : aw (bD x) (0 + 5) (au (.int .i64 0)) = bD { x with size := 0 } := by simp [aw, bD, au]
      have e2 : aw (bD y) (0 + 5) (au (.int .i64 0)) = bD { x with size := 0 } := by
       rw [Ad]; unfold gY
       split <;> simp [aw, bD, au]
      rw [e1, e2]
      refine tail { x with size := 0 } _ ?_ ?_ ?_ aR
      · rw [aE n319, aE n318]; exact m3
      · rw [aE Oh, aE Gt]; exact m14
      · rw [aE hq, aR]
    · have : y = x := by rw [Ad]; unfold gY; rw [if_neg (by omega)]
      subst this
      exact tail y _ m3 m14 m18 m19
   refine ⟨[b3, lG], ?_⟩
   refine eA ⟨by simp [bV], cI m3 rfl ?_⟩
   refine sU hv.s hx fun r1 => ⟨by simp [bV], ?_⟩
   rw [zo]
   refine ⟨by simp [bD], ?_⟩
   rw [show (bD x ++ r1).take 6 = bD x from rfl]
   refine eA ⟨by simp [bV], cI m14 rfl ?_⟩
   refine sU su.s hy fun r2 => ⟨by simp [bV], ?_⟩
   rw [zo]
   refine ⟨by simp [bD], ?_⟩
   rw [show (bD y ++ r2).take 6 = bD y from rfl]
   have OR : ∀ {τ : St}, cm gz τ -> bG [b3, lG] gz τ := by
    intro τ e b hb
    simp only [dA, List.not_mem_nil, or_false] at hb
    rcases hb with rfl | rfl
    · cases e' : gz.live b with
      | none => exact absurd e' (bR m3)
      | some z => exact e _ _ e'
    · cases e' : gz.live b with
      | none => exact absurd e' (bR m14)
      | some z => exact e _ _ e'
   refine ⟨?_, ?_⟩
   · rw [cw]
     intro iM zV
     have e1 := bj zV (x := .box [AV.int .u8 0, AV.str [], AV.int .i64 0, AV.int .i64 0, AV.int .i64 0, AV.int .i64 0])
     refine ⟨OR e1, ?_⟩
     rw [cw]
     intro jq zW
     have e2 := e1.new zW (x := .box [AV.int .u8 0, AV.str [], AV.int .i64 0, AV.int .i64 0, AV.int .i64 0, AV.int .i64 0])
     have B8 : iM ≠ jq := zW.cn aD
     exact ⟨OR e2, post iM jq _ B8 zV.1 (e1.fresh zW.1) e2 ⟨_, by rw [jt B8]; exact aD, rfl⟩ ⟨_, aD, rfl⟩⟩
   · rw [cw]
     intro jq zW
     have e1 := bj zW (x := .box [AV.int .u8 0, AV.str [], AV.int .i64 0, AV.int .i64 0, AV.int .i64 0, AV.int .i64 0])
     refine ⟨OR e1, ?_⟩
     rw [cw]
     intro iM zV
     have e2 := e1.new zV (x := .box [AV.int .u8 0, AV.str [], AV.int .i64 0, AV.int .i64 0, AV.int .i64 0, AV.int .i64 0])
     have B8 : jq ≠ iM := zV.cn aD
     exact ⟨OR e2, post iM jq _ B8.symm (e1.fresh zV.1) zW.1 e2 ⟨_, aD, rfl⟩ ⟨_, by rw [jt B8]; exact aD, rfl⟩⟩
 · have xR : i = n := by omega
   subst xR
   refine eA (cI m3 rfl ?_)
   rw [sn.s.len, aC, o0]
   refine ⟨aX (by omega) (by omega), ?_⟩
   have XX : ((i : Int) + (ct t.flat i).length) = ((i + a8 t.flat i : Nat) : Int) := by omega
   rw [XX]
   refine rS (a := i + a8 t.flat i) (b := t.flat.length) hv.s bW (by omega) (by omega) (eT _) (eJ _ _ _) fun c1 => ?_
   refine eA (cI m14 rfl ?_)
   rw [sm.s.len, aC, o0]
   refine ⟨aX (by omega) (by omega), ?_⟩
   have XY : ((i : Int) + (ct t.flat m).length) = ((i + (ct t.flat m).length : Nat) : Int) := by omega
   rw [XY]
   refine rS (a := i + (ct t.flat m).length) (b := u.flat.length) su.s Yf (by omega) (by omega) (eT _) (eJ _ _ _) fun c2 => ?_
   rw [qS, qS, Z0]
   refine jX (show Pure K 47 _ (.bool true) from by simpa using E9 (l1 := t.flat.drop (i + a8 t.flat i)) (l2 := t.flat.drop (i + a8 t.flat i)) (.inr ⟨_, rfl⟩) (.inr ⟨_, rfl⟩) (by simp; omega) (by simp; omega)) ?_
   simp only [aW, fK, aM, bZ]
   refine jX mF ?_
   simp only [aJ, if_true, aC]
   exact al.mk (hR _)
end Go.Rip
