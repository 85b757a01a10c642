/- Lemmas for the proof: no conditions. -/
import Derived.Test.YtnfpmiiopiinbaaGreatDoorRipZz
import Derived.Test.YtnfpmiiopiinbaaGreatDoorRipW
import Derived.Test.YtnfpmiiopiinbaaGreatDoorRipH
import Derived.Test.YtnfpmiiopiinbaaGreatDoorRipG
import Derived.Test.YtnfpmiiopiinbaaGreatDoorRipP
set_option linter.unusedVariables false
set_option linter.unusedSimpArgs false
set_option linter.loopingSimpArgs false
namespace Go.Rip
open Go.Proofs Go.RowKit
theorem H5 (k : Int) : Pure K 179 [.int .u8 k] (.bool (o0 k)) := by
 intro U R hR
 refine Mj ?_
 unfold Mi
 rw [dT, ah]
 refine zl (fun _ => fm ..) (ak.eq hR ?_)
 simp only [o0, AV.bool.injEq]; grind
theorem zU (k : Int) : Pure K 206 [.int .u8 k] (.bool (j5 k)) := by
 intro U R hR
 refine Ms ?_
 unfold Mr
 rw [aX, ah]
 refine sw (fun _ => aX ..) (ak.eq hR ?_)
 simp only [j5, AV.bool.injEq]; grind
theorem Ic (k : Int) : Pure K 181 [.int .u8 k] (.bool (qz k)) := by
 intro U R hR
 refine Mm ?_
 unfold Ml
 refine (zU k).go ?_
 refine sw (fun _ => aX ..) (ak.eq hR ?_)
 simp only [j5, qz, AV.bool.injEq]; grind
theorem zW (k : Int) : Pure K 185 [.int .u8 k] (.bool (fH k)) := by
 intro U R hR
 refine Mo ?_
 unfold Mn
 rw [dT, ah]
 refine zl (fun _ => fm ..) (ak.eq hR ?_)
 simp only [fH, AV.bool.injEq]; grind
theorem Kt (k : Int) : Pure K 207 [.int .u8 k] (.bool (j0 k)) := by
 intro U R hR
 refine Mu ?_
 unfold Mt
 refine (zW k).go ?_
 refine sw (fun _ => aX ..) ?_
 refine sw (fun _ => aX ..) (ak.eq hR ?_)
 simp only [fH, j0, AV.bool.injEq]; grind
theorem H6 (k c : Int) : Pure K 242 [.int .u8 k, .ck [.int .u8 c]] (.bool (decide (k = c))) := by
 intro U R hR
 refine M4 ?_
 unfold M0
 rw [mg, bM]
 exact eD (ak.mk hR)
theorem nk (a b n : Int) : Pure K 122 [.int .i64 a, .int .i64 b, .int .i64 n] (.bool (decide (a <= n /\ n <= b))) := by
 intro U R hR
 refine KY ?_
 unfold KX
 refine tO ?_
 by_cases h : a <= n
 · simp only [h, bT, aI, dG]
   refine dq (dq ?_)
   rw [fm]
   refine dq ?_
   simp only [aA, if_true, ah]
   refine ak.eq hR ?_
   simp [h]
 · simp only [h, ct, aI, show (false == true) = false from rfl, aC, a7, aA, bo, if_false, ah]
   refine ak.eq hR ?_
   simp [h]
def vM : qD -> AV
 | .item => .func (.func 179) [] []
 | .type => .func (.func 181) [] []
 | .base => .func (.func 206) [] []
 | .term => .func (.func 185) [] []
 | .arg => .func (.func 207) [] []
 | .kind c => .func (.func 242) [] [.ck [.int .u8 c]]
theorem Uz {c : qD} {k : Int} {U : St} {K' : AV -> St -> Prop} {Kp : AV -> St -> Prop} (h : K' (.bool (c.is k)) U) : (gp K.P (vM c) [.int .u8 k]).wp K U K' Kp := by
 cases c with
 | item => simp only [vM, gp, show eg K.P 179 = true by kernel_rfl, if_true, jk, ik, iy]; exact (H5 k).go h
 | type => simp only [vM, gp, show eg K.P 181 = true by kernel_rfl, if_true, jk, ik, iy]; exact (Ic k).go h
 | base => simp only [vM, gp, show eg K.P 206 = true by kernel_rfl, if_true, jk, ik, iy]; exact (zU k).go h
 | term => simp only [vM, gp, show eg K.P 185 = true by kernel_rfl, if_true, jk, ik, iy]; exact (zW k).go h
 | arg => simp only [vM, gp, show eg K.P 207 = true by kernel_rfl, if_true, jk, ik, iy]; exact (Kt k).go h
 | kind c => simp only [vM, gp, show eg K.P 242 = true by kernel_rfl, if_true, jk, ik, kf]; exact (H6 k c).go h
def kg (s : mB) : List AV := [vM s.c, .int .i64 (s.least : Nat), .int .i64 (s.mL : Nat)]
def lH (l : List mB) : List AV := l.flatMap kg
def jE (l : List mB) : AV := if l = [] then .al else .vec l.length .full (lH l)
def lx (f : Bk) : List AV := [.bool f.text, .bool f.n, .bool f.m, jE f.kids]
theorem EA (L : List mB) : (lH L).length = 3 * L.length := by
 induction L with
 | nil => rfl
 | cons t L ih =>
   have : (lH (t :: L)).length = 3 + (lH L).length := by simp [lH, kg]; omega
   rw [this, ih, jL]; omega
theorem Ac (L : List mB) (i : Nat) : (lH L).drop (i * 3) = lH (L.drop i) := by
 induction L generalizing i with
 | nil => simp [lH]
 | cons t L ih =>
   cases i with
   | zero => simp
   | succ i =>
     rw [Nat.add_mul, show i * 3 + 1 * 3 = 3 + i * 3 by omega, <- List.drop_drop, List.drop_succ_cons, <- ih]
     rfl
theorem PD {L : List mB} {i : Nat} {t : mB} (h : L[i]? = some t) : ∃ r, (lH L).drop (i * 3) = kg t ++ r := by
 rw [Ac, gy (dF.1 h).1]
 refine ⟨lH (L.drop (i + 1)), ?_⟩
 have := (dF.1 h).2
 simp [lH, this]
theorem PE (l : List mB) : eh (jE l) l.length (lH l) := by
 unfold jE
 split
 · rename_i h; subst h; exact .inl ⟨rfl, rfl, rfl⟩
 · exact .inr ⟨_, rfl⟩
theorem RH {v : AV} {ss : List mB} {s : mB} {i : Nat} {U : St} {K' : AV -> St -> Prop} {Kp : AV -> St -> Prop} (hv : eh v ss.length (lH ss)) (hs : ss[i]? = some s) (hk : K' (.agg (kg s)) U) :
 (aF (some (200, 3)) none v (.int .i64 (i : Nat))).wp K U (fun p U => (ao (some (true, 3)) p U).wp K U K' Kp) Kp := by
 have aJ := (dF.1 hs).1
 obtain ⟨c, rfl, mD⟩ := hv.at (sz := 3) (e := 200) aJ
 obtain ⟨r, hr⟩ := PD hs
 rw [mD, hr]
 refine ⟨by omega, ?_⟩
 rw [ah, xA]
 refine ⟨by simp [kg], ?_⟩
 have : (kg s ++ r).take 3 = kg s := by simp [kg]
 rw [this]; exact hk
theorem B1 {k : Int} {z : AV} : ∀ (ks : List Int) (vs : List AV), (∀ j ∈ ks, j ≠ k) -> kH .i (.int .u8 k) z true (ks.map (.int .u8)) vs = .val (.aR [z, .bool false])
 | [], vs, _ => by cases vs <;> rfl
 | j :: ks, [], _ => rfl
 | j :: ks, v :: vs, h => by
   have hj : ¬ k = j := fun e => h j (by simp) e.symm
   have : fL .i (.int .u8 k) (.int .u8 j) = some false := by simp [fL, hj]
   simp only [dJ, kH, this, bo, if_false]
   exact B1 ks vs fun x hx => h x (by simp [hx])
def E6 : AV := .agg [AV.bool false, AV.bool false, AV.bool false, AV.al]
def Kk (n : Nat) : Bool := match mW with
 | .eR ks vs => (match kH .i (.int .u8 n) E6 true ks vs with
   | .val v => gJ v (match eG n with | some f => .aR [.agg (lx f), .bool true] | none => .aR [E6, .bool false])
   | _ => false)
 | _ => false
theorem H3 : ∀ n : Fin 38, Kk n.val = true := by decide +kernel
end Go.Rip
namespace Go.Rip
open Go.Proofs Go.RowKit
theorem FB (ks : List Int) : (eL ks).length = ks.length := by simp [eL]
theorem X7 {U : St} {v : AV} {ks : List Int} {i e : Nat} {k : Int} {kq : AV -> AV -> Prop} (hv : eh v ks.length (eL ks)) (hk : ks[i]? = some k) (h : ∀ L, kq (.ck L) (.int .u8 k)) :
 ad K (.bool true) (aF (some (e, 1)) none v (.int .i64 (i : Nat))) fun p => ad K (.bool true) (ao (some (false, 1)) p U) (kq p) := by
 have aJ := (dF.1 hk).1
 obtain ⟨c, rfl, mD⟩ := hv.at (sz := 1) (e := e) aJ
 obtain ⟨r, hr⟩ := AQ hk
 rw [mD, Nat.mul_one, hr]
 exact ij ⟨by omega, ij (h _)⟩
theorem VQ {v : AV} {ks : List Int} {i : Nat} {e : Nat} {U : St} {K' : AV -> St -> Prop} {Kp : AV -> St -> Prop} (hv : eh v ks.length (eL ks)) (hi : i <= ks.length) (hk : ∀ v', eh v' (ks.drop i).length (eL (ks.drop i)) -> K' v' U) :
 (dx false (some (e, 1)) v (some (.int .i64 (i : Nat))) none).wp K U K' Kp := by
 rcases hv with ⟨h0, h1, rfl⟩ | ⟨c, rfl⟩
 · have iE : ks = [] := oH.1 h0
   subst iE
   have BA : i = 0 := by simpa using hi
   subst BA
   simp only [dx, dc, wp_cond, ah]
   refine ⟨by simp, hk _ (.inl ⟨rfl, rfl, rfl⟩)⟩
 · rw [sf, fD, eV]
   refine ⟨by omega, ?_⟩
   refine hk _ (.inr ⟨pn c none, ?_⟩)
   have : ks.length - i = (ks.drop i).length := by rw [List.length_drop]
   simp only [dR, Nat.mul_one, this]
   rw [o7 (by rw [FB]; exact cX _)]
   congr 1
   simp [eL, List.map_drop]
theorem SF {ss : List mB} {i : Nat} {U : St} {K' : AV -> St -> Prop} {Kp : AV -> St -> Prop} (hi : i < ss.length) (hk : ∀ v', eh v' (ss.drop (i + 1)).length (lH (ss.drop (i + 1))) -> K' v' U) :
 (dx false (some (200, 3)) (jE ss) (some (.int .i64 ((i : Nat) + 1))) none).wp K U K' Kp := by
 have bW : ss ≠ [] := by intro e; subst e; simp at hi
 unfold jE
 rw [if_neg bW, sf, fD, eV]
 refine ⟨by omega, ?_⟩
 refine hk _ (.inr ⟨pn .full none, ?_⟩)
 have : (ss.length : Int).toNat - ((i : Int) + 1).toNat = (ss.drop (i + 1)).length := by rw [List.length_drop]; omega
 rw [this]
 congr 1
 rw [dR, o7 (by rw [EA]; omega), show ((i : Int) + 1).toNat = i + 1 by omega, Ac]
def rU (ks : List Int) (s : mB) (rest : Nat) : Nat := ((ks.take (min (ks.length - rest) s.mL)).takeWhile s.c.is).length
theorem Jb (ks : List Int) (s : mB) (ss : List mB) : dy ks (s :: ss) = if rU ks s (ss.map (·.least)).sum < s.least then false else dy (ks.drop (rU ks s (ss.map (·.least)).sum)) ss := by
 rw [dy]; rfl
theorem Be {p : Int -> Bool} : ∀ {l : List Int} {i : Nat}, (∀ j (h : j < l.length), j < i -> p l[j] = true) -> i <= l.length -> (i = l.length \/ ∃ h : i < l.length, p l[i] = false) -> (l.takeWhile p).length = i
 | [], i, _, hi, _ => by simp at hi; simp [hi]
 | a :: l, 0, _, _, he => by
   rcases he with he | ⟨h, he⟩
   · simp at he
   · rw [nG]; simp at he; simp [he]
 | a :: l, i + 1, bm, hi, he => by
   have ha : p a = true := bm 0 (by simp) (by omega)
   rw [nG, if_pos ha, jL]
   congr 1
   refine Be (fun j h hj => ?_) (by simpa using hi) ?_
   · have := bm (j + 1) (by simp; omega) (by omega)
     simpa using this
   · rcases he with he | ⟨h, he⟩
     · left; simpa using he
     · right; exact ⟨by simpa using h, by simpa using he⟩
theorem UH {U : St} {R : cD -> St -> Prop} {v : AV} {ks : List Int} {ss : List mB} (hv : eh v ks.length (eL ks)) (hl : ks.length <= 100000) (mX : ss.length <= 100) (kU : ∀ s ∈ ss, s.least <= 1000 /\ s.mL <= 1000)
 (h : ∀ ae, cL U ae -> R (.ret (.bool (dy ks ss))) ae) : af K 209 [v, jE ss] U R := by
 refine My ?_
 unfold Mx
 have ZL := PE ss
 have hlen : bz (some false) (jE ss) = .val (.int .i64 ss.length) := ZL.len
 rw [hlen, ah]
 refine ⟨fun m v0 v1 v11 v12 bI ae => ∃ (i : Nat) (ks' : List Int), m = ss.length - i /\ v1 = jE ss /\ v11 = jE ss /\ v12 = .int .i64 ss.length /\ bI = .int .i64 (i : Nat) /\ i <= ss.length /\ eh v0 ks'.length (eL ks') /\ ks'.length <= ks.length /\ dy ks' (ss.drop i) = dy ks ss /\ cL U ae,
  ⟨_, 0, ks, rfl, rfl, rfl, rfl, rfl, by omega, hv, cX _, rfl, cL.refl _⟩, ?_⟩
 rintro m v0 v1 v11 v12 bI bJ ⟨i, ks', rfl, rfl, rfl, rfl, rfl, hi, QA, vi, mH, e1⟩
 refine tN (fun aJ => ?_) fun fJ => ?_
 · have aJ : i < ss.length := by omega
   obtain ⟨s, hs⟩ : ∃ s, ss[i]? = some s := ⟨ss[i], by simp [aJ]⟩
   have Gr := kU s (fO hs)
   have Yg : ss.drop i = s :: ss.drop (i + 1) := by
    rw [gy aJ]
    have := (dF.1 hs).2
    rw [this]
   refine RH ZL hs ?_
   rw [cN]
   intro b6 nX
   have m6 : (bJ.new b6 (.box [AV.dh, AV.int .i64 0, AV.int .i64 0])).box b6 = some [AV.dh, AV.int .i64 0, AV.int .i64 0] := aN
   have e2 := e1.new nX (x := .box [AV.dh, AV.int .i64 0, AV.int .i64 0])
   have f6 := e1.fresh nX.1
   generalize bJ.new b6 (.box [AV.dh, AV.int .i64 0, AV.int .i64 0]) = bP at *
   rw [cI m6]
   refine ⟨⟨rfl, rfl, by simp⟩, ?_⟩
   have g6 : (bP.set b6 (.box (aB [AV.dh, AV.int .i64 0, AV.int .i64 0] 0 (ay (.agg (kg s)))))).box b6 = some (kg s) := by rw [aT]; rfl
   have e3 := e2.set f6 (x := .box (aB [AV.dh, AV.int .i64 0, AV.int .i64 0] 0 (ay (.agg (kg s)))))
   generalize bP.set b6 (.box (aB [AV.dh, AV.int .i64 0, AV.int .i64 0] 0 (ay (.agg (kg s))))) = cJ at *
   rw [cg]
   refine ⟨aS (by omega) (by omega), ?_⟩
   refine SF aJ fun v21 Y8 => ?_
   have Vh : bz (some false) v21 = .val (.int .i64 (ss.drop (i + 1)).length) := Y8.len
   rw [Vh, ah]
   generalize Hy : ss.drop (i + 1) = rest at *
   have hrl : rest.length <= 100 := by rw [<- Hy, List.length_drop]; omega
   have ZJ : ∀ s ∈ rest, s.least <= 1000 := fun s hs => (kU s (by rw [<- Hy] at hs; exact List.mem_of_mem_drop hs)).1
   have DJ : ∀ n, ((rest.take n).map (·.least)).sum <= 1000 * n := by
    have : ∀ (l : List mB) (n : Nat), (∀ s ∈ l, s.least <= 1000) -> ((l.take n).map (·.least)).sum <= 1000 * n := by
     intro l
     induction l with
     | nil => intro n _; simp
     | cons a l ih =>
       intro n hm
       cases n with
       | zero => simp
       | succ n =>
         have := ih n fun s hs => hm s (by simp [hs])
         have := hm a (by simp)
         simp only [List.take_succ_cons, dJ, List.sum_cons]; omega
    exact fun n => this rest n ZJ
   refine ⟨fun m w0 w1 w6 w7 NB NC ND w21 w22 w23 ae => ∃ j : Nat, m = rest.length - j /\ w0 = v0 /\ w1 = jE ss /\ w6 = .box b6 0 /\ w7 = .int .i64 (((rest.take j).map (·.least)).sum : Nat) /\ NB = jE ss /\ NC = .int .i64 ss.length /\ ND = .int .i64 (i : Nat) /\ w21 = v21 /\ w22 = .int .i64 rest.length /\ w23 = .int .i64 (j : Nat) /\ j <= rest.length /\ ae.box b6 = some (kg s) /\ cL U ae,
    ⟨_, 0, rfl, rfl, rfl, rfl, rfl, rfl, rfl, rfl, rfl, rfl, rfl, by omega, g6, e3⟩, ?_⟩
   clear e2 e3 g6 m6 nX
   rintro m w0 w1 w6 w7 NB NC ND w21 w22 w23 cu ⟨j, rfl, rfl, rfl, rfl, rfl, rfl, rfl, rfl, rfl, rfl, rfl, hj, g6, e4⟩
   refine tN (fun sB => ?_) fun aax => ?_
   · have sB : j < rest.length := by omega
     obtain ⟨s2, BG⟩ : ∃ s2, rest[j]? = some s2 := ⟨rest[j], by simp [sB]⟩
     refine RH Y8 BG ?_
     rw [cN]
     intro b9 pH
     have m9 : (cu.new b9 (.box [AV.dh, AV.int .i64 0, AV.int .i64 0])).box b9 = some [AV.dh, AV.int .i64 0, AV.int .i64 0] := aN
     have e5 := e4.new pH (x := .box [AV.dh, AV.int .i64 0, AV.int .i64 0])
     have f9 := e4.fresh pH.1
     have n9 := pH.cx g6
     have Y5 := (bE pH (x := .box [AV.dh, AV.int .i64 0, AV.int .i64 0])).bj g6
     generalize cu.new b9 (.box [AV.dh, AV.int .i64 0, AV.int .i64 0]) = dI at *
     rw [cI m9]
     refine ⟨⟨rfl, rfl, by simp⟩, ?_⟩
     have g9 : (dI.set b9 (.box (aB [AV.dh, AV.int .i64 0, AV.int .i64 0] 0 (ay (.agg (kg s2)))))).box b9 = some (kg s2) := by rw [aT]; rfl
     have aaj : (dI.set b9 (.box (aB [AV.dh, AV.int .i64 0, AV.int .i64 0] 0 (ay (.agg (kg s2)))))).box b6 = some (kg s) := by rw [aP n9]; exact Y5
     have e6 := e5.set f9 (x := .box (aB [AV.dh, AV.int .i64 0, AV.int .i64 0] 0 (ay (.agg (kg s2)))))
     generalize dI.set b9 (.box (aB [AV.dh, AV.int .i64 0, AV.int .i64 0] 0 (ay (.agg (kg s2))))) = oP at *
     simp only [aV, ah, cr]
     refine eP g9 rfl ?_
     have eH := DJ j
     have lQ := ZJ s2 (fO BG)
     rw [cg]
     refine ⟨aS (by omega) (by omega), ?_⟩
     rw [cg]
     refine ⟨aS (by omega) (by omega), rest.length - (j + 1), by omega, j + 1, rfl, rfl, rfl, rfl, ?_, rfl, rfl, rfl, rfl, rfl, by simp, sB, aaj, e6⟩
     have : rest.take (j + 1) = rest.take j ++ [s2] := by rw [nH, BG]; rfl
     rw [this]; simp
   · have hj : j = rest.length := by omega
     subst hj
     rw [oI]
     have eH := DJ rest.length
     rw [oI] at eH
     generalize aaL : (rest.map (·.least)).sum = sm at *
     have Yf : dy ks' (s :: rest) = if rU ks' s sm < s.least then false else dy (ks'.drop (rU ks' s sm)) rest := by rw [Jb, aaL]
     rw [Yg, Yf] at mH
     refine ⟨fun m u0 w1 w6 w7 w10 NB NC ND ae => ∃ q : Nat, m = ks'.length - q /\ u0 = w0 /\ w1 = jE ss /\ w6 = .box b6 0 /\ w7 = .int .i64 (sm : Nat) /\ w10 = .int .i64 (q : Nat) /\ NB = jE ss /\ NC = .int .i64 ss.length /\ ND = .int .i64 (i : Nat) /\ q <= min (ks'.length - sm) s.mL /\ (∀ (p : Nat) (hp : p < ks'.length), p < q -> s.c.is ks'[p] = true) /\ ae.box b6 = some (kg s) /\ cL U ae,
      ⟨_, 0, rfl, rfl, rfl, rfl, rfl, rfl, rfl, rfl, rfl, by omega, fun p hp h => by omega, g6, e4⟩, ?_⟩
     clear g6 e4
     rintro m u0 w1 w6 w7 w10 NB NC ND dI ⟨q, rfl, rfl, rfl, rfl, rfl, rfl, rfl, rfl, rfl, hq, bm, g6, e5⟩
     intro jj xP
     have zy : bz (some false) u0 = .val (.int .i64 ks'.length) := QA.len
     have stop : rU ks' s sm = q -> jj u0 (jE ss) (.box b6 0) (.int .i64 (sm : Nat)) (.int .i64 (q : Nat)) (jE ss) (.int .i64 ss.length) (.int .i64 (i : Nat)) (.bool false) dI := fun hmq => by
      refine xP _ _ _ _ _ _ _ _ _ _ ?_
      refine dQ ?_
      simp only [aV, ah, cr]
      refine eP g6 rfl ?_
      rw [hmq] at mH
      refine tN (fun hml => ?_) fun hml => ?_
      · rw [if_pos (by omega)] at mH
        refine ak.mk ?_
        rw [mH]; exact h _ e5
      · rw [if_neg (by omega)] at mH
        refine VQ QA (by omega) fun p8 h61 => ?_
        rw [cg]
        refine ⟨aS (by omega) (by omega), ss.length - (i + 1), by omega, i + 1, ks'.drop q, rfl, rfl, rfl, rfl, by simp, aJ, h61, by simp; omega, ?_, e5⟩
        rw [Hy]; exact mH
     have go : q < min (ks'.length - sm) s.mL -> (∀ k, ks'[q]? = some k -> s.c.is k = true) -> jj u0 (jE ss) (.box b6 0) (.int .i64 (sm : Nat)) (.int .i64 (q : Nat)) (jE ss) (.int .i64 ss.length) (.int .i64 (i : Nat)) (.bool true) dI := fun hql hqs => by
      refine xP _ _ _ _ _ _ _ _ _ _ ?_
      refine cR ?_
      rw [cg]
      refine ⟨aS (by omega) (by omega), ks'.length - (q + 1), by omega, q + 1, rfl, rfl, rfl, rfl, rfl, by simp, rfl, rfl, rfl, by omega, fun p hp Gq => ?_, g6, e5⟩
      rcases eM p q with aJ | fJ
      · exact bm p hp aJ
      · have : p = q := by omega
        subst this; exact hqs _ (by simp [hp])
     have mL : q = min (ks'.length - sm) s.mL -> rU ks' s sm = q := fun DD => by
      unfold rU
      rw [<- DD]
      refine Be (fun p hp Gq => ?_) (by simp; omega) (.inl (by simp; omega))
      have := bm p (by simp at hp; omega) Gq
      simpa using this
     simp only [zy, av, dU, dC, fN]
     refine ⟨aS (by omega) (by omega), ?_⟩
     rw [bg, av]
     by_cases h1 : (q : Int) < (ks'.length : Int) - (sm : Nat)
     · simp only [h1, bT, aI, dG]
       refine dq (UK (Df g6 rfl ?_))
       rw [bg]
       refine dq ?_
       simp only [aA, if_true, av]
       by_cases h2 : (q : Int) < (s.mL : Nat)
       · have hqk : q < ks'.length := by omega
         have hx : ks'[q]? = some ks'[q] := by simp [hqk]
         simp only [h2, bT, aI, dG]
         refine UK (Df g6 rfl (dq (dq (X7 QA hx fun L => ?_))))
         refine cR ?_
         refine Uz ⟨fun b hb => rfl, ?_⟩
         simp only [aA, if_true, av]
         cases hc : s.c.is ks'[q] with
         | true => exact go (by omega) fun k hk => by rw [hx] at hk; cases hk; exact hc
         | false =>
           refine stop ?_
           unfold rU
           refine Be (fun p hp Gq => ?_) (by simp; omega) (.inr ⟨by simp; omega, by simpa using hc⟩)
           have := bm p (by simp at hp; omega) Gq
           simpa using this
       · simp only [h2, ct, aI, show (false == true) = false from rfl, aC, a7, aA, bo, if_false, av]
         exact dQ (stop (mL (by omega)))
     · simp only [h1, ct, aI, show (false == true) = false from rfl, aC, a7, aA, bo, if_false, av]
       exact dQ (stop (mL (by omega)))
 · have hi : i = ss.length := by omega
   subst hi
   rw [List.drop_length] at mH
   have zy : bz (some false) v0 = .val (.int .i64 ks'.length) := QA.len
   rw [zy, ah]
   refine eD (ak.eq (h _ e1) ?_)
   rw [<- mH, dy, AV.bool.injEq, lY, List.isEmpty_iff, c7]
   constructor
   · intro h; exact oH.1 (by omega)
   · rintro rfl; rfl
end Go.Rip
namespace Go.Rip
open Go.Proofs Go.RowKit
def DX (l : List Nd) (en : Int) : Nat -> Nat -> Nat
 | 0, p => p
 | f + 1, p => match l[p]? with
   | some x => if (p : Int) < en /\ 0 < x.size then DX l en f (p + x.size.toNat) else p
   | none => p
def behind (l : List Nd) (p : Nat) (ks : List Nat) : Nat := ks.foldl (fun _ k => k + bY l k) p
theorem xD (l : List Nd) (p : Nat) (ks : List Nat) (k : Nat) : behind l p (ks ++ [k]) = k + bY l k := by simp [behind]
theorem BV (l : List Nd) (en : Int) : ∀ (f p : Nat), behind l p (gh l en f p) = DX l en f p
 | 0, p => rfl
 | f + 1, p => by
   simp only [gh, DX]
   cases hx : l[p]? with
   | none => rfl
   | some x =>
     simp only
     by_cases h : (p : Int) < en /\ 0 < x.size
     · rw [if_pos h, if_pos h, <- BV l en f]
       have : bY l p = x.size.toNat := by unfold bY; rw [hx]; rfl
       simp only [behind, List.foldl_cons, this]
     · rw [if_neg h, if_neg h]; rfl
theorem BW {l : List Nd} (hs : sY l) {en : Nat} (Zj : en <= l.length) : ∀ (f p : Nat), DX l en f p = mA l en f p
 | 0, p => rfl
 | f + 1, p => by
   simp only [DX]
   by_cases hp : p < en
   · have aJ : p < l.length := by omega
     have hx : l[p]? = some l[p] := by simp [aJ]
     have := hs.2.2 p _ hx
     rw [qs hx hp, hx]
     simp only
     rw [if_pos ⟨by omega, by omega⟩]
     exact BW hs Zj f _
   · rw [qt hp]
     split
     · rw [if_neg (fun h => hp (by omega))]
     · rfl
def fY (l : List Nd) (ks : List Nat) : List Int := ks.map fun k => ((l[k]?.map Nd.kind).getD 0)
def gT (l : List Nd) (n : Nat) (x : Nd) : Bool := match eG x.kind with
 | none => false
 | some f => decide (1 <= x.size /\ x.size <= (l.length : Int) - n) && (lP x f && ((gh l ((n : Int) + x.size) l.length (n + 1)).all (fun k => decide (1 <= bY l k /\ (k : Int) + bY l k <= n + x.size)) &&
    (decide (((behind l (n + 1) (gh l ((n : Int) + x.size) l.length (n + 1)) : Nat) : Int) = n + x.size) && dy (fY l (gh l ((n : Int) + x.size) l.length (n + 1))) f.kids)))
theorem B4 {l : List Nd} {n : Nat} {s : Tre} {x : Nd} (hs : eQ l n s) (hx : l[n]? = some x) : gT l n x = mr x (s.kids.map Tre.kind) := by
 obtain ⟨y, hy, _, dD, _⟩ := hs.lB
 rw [hx] at hy; cases hy
 have hle := hs.le
 have nA := s.cV
 have hk : gh l ((n : Int) + x.size) l.length (n + 1) = bG (n + 1) s.kids := by rw [dD]; exact DY hs
 have qO := gK s
 have fp : ∀ (ts : List Tre) (p : Nat), jr l p ts -> (bG p ts).all (fun k => decide (1 <= bY l k /\ (k : Int) + bY l k <= (p : Int) + (Tre.bB ts).length)) = true /\ behind l p (bG p ts) = p + (Tre.bB ts).length /\ fY l (bG p ts) = ts.map Tre.kind := by
  intro ts
  induction ts with
  | nil => intro p _; simp [bG, behind, fY]
  | cons t ts ih =>
    intro p nB
    obtain ⟨z, hz, hzk, tl, _⟩ := nB.head.lB
    have htp := t.cV
    have DI : bY l p = t.flat.length := by unfold bY; rw [hz]; simp; omega
    obtain ⟨i1, i2, i3⟩ := ih _ nB.tail
    refine ⟨?_, ?_, ?_⟩
    · simp only [bG, List.all_cons, bR, c7, DI, Tre.cO, eU]
      refine ⟨⟨by omega, by omega⟩, ?_⟩
      rw [ef] at i1 ⊢
      intro k hk
      have := i1 k hk
      simp only [c7] at this ⊢
      omega
    · simp only [bG, behind, List.foldl_cons, DI]
      have : behind l (p + t.flat.length) (bG (p + t.flat.length) ts) = p + (Tre.bB (t :: ts)).length := by rw [i2]; simp; omega
      exact this
    · simp only [bG, fY, dJ, hz, Option.map_some, Option.getD_some, hzk]
      congr 1
 obtain ⟨h1, h2, h3⟩ := fp s.kids (n + 1) hs.kids
 unfold gT mr oo
 cases hf : eG x.kind with
 | none => simp
 | some f =>
   simp only
   rw [hk, Bv hf, h2, h3]
   have e1 : decide (1 <= x.size /\ x.size <= (l.length : Int) - n) = true := by rw [c7]; omega
   have e2 : (bG (n + 1) s.kids).all (fun k => decide (1 <= bY l k /\ (k : Int) + bY l k <= n + x.size)) = true := by
    rw [ef] at h1 ⊢
    intro k hk
    have := h1 k hk
    simp only [c7] at this ⊢
    omega
   have e3 : decide (((n + 1 + (Tre.bB s.kids).length : Nat) : Int) = n + x.size) = true := by rw [c7]; omega
   rw [e1, e2, e3]; simp
theorem x9 {l : List Nd} (bW : l ≠ []) (h0 : jT l = l.length) (h : ∀ n x, l[n]? = some x -> gT l n x = true) : tU l := by
 have rM : sY l := by
  refine ⟨bW, h0, fun i x hx => ?_⟩
  have := h i x hx
  unfold gT at this
  split at this
  · cases this
  · simp only [bR, c7] at this
    exact this.1
 refine ⟨rM, fun i x hx => ?_⟩
 have hq := h i x hx
 have BH := rM.2.2 i x hx
 unfold gT at hq
 split at hq
 · cases hq
 · simp only [bR, c7] at hq
   have hb := hq.2.2.2.1
   rw [BV] at hb
   have e : ((i : Int) + x.size) = ((i + x.size.toNat : Nat) : Int) := by omega
   rw [e] at hb
   rw [<- BW rM (by omega)]
   exact_mod_cast hb
theorem Ca {l : List Nd} {x0 : Nd} (h0 : l[0]? = some x0) : (x0.kind = 1 /\ x0.size = l.length /\ ∀ n x, l[n]? = some x -> gT l n x = true) ↔ ∃ t : Tre, l = t.flat /\ t.kind = 1 /\ t.ok = true := by
 constructor
 · rintro ⟨h1, h2, h3⟩
   have bW : l ≠ [] := by intro e; subst e; simp at h0
   have rL : jT l = l.length := by
    cases l with
    | nil => exact absurd rfl bW
    | cons y r => simp at h0; subst h0; exact h2
   obtain ⟨t, rfl⟩ := (se l).1 (x9 bW rL h3)
   obtain ⟨y, hy, hk, _⟩ := (eQ.whole t).lB
   rw [h0] at hy; cases hy
   refine ⟨t, rfl, by rw [<- hk, h1], ?_⟩
   have := zT (l := t.flat) _ [t] 0 (cX _) ⟨[], by simp⟩ (fun j s x _ hj hs hx => by rw [<- B4 hs hx]; exact h3 j x hx)
   simpa using this
 · rintro ⟨t, rfl, hk, ho⟩
   obtain ⟨y, hy, VJ, ZT, _⟩ := (eQ.whole t).lB
   rw [h0] at hy; cases hy
   refine ⟨by rw [VJ, hk], ZT, fun n x hx => ?_⟩
   obtain ⟨⟨s, _, hs, _⟩, _⟩ := place t (dF.1 hx).1
   rw [B4 hs hx]
   exact yE (EG ho hs) hs hx
theorem zb {l : List Nd} (h9 : ¬ 900 < l.length) (h : ¬ ∃ t : Tre, l = t.flat /\ t.kind = 1 /\ t.ok = true) : fi l = 4 := by
 unfold fi
 rw [if_neg h9]
 cases ht : wL l with
 | none => rfl
 | some t =>
   have := Nu ht
   subst this
   show qH t = 4
   unfold qH
   rw [if_pos]
   by_cases hk : t.kind = 1
   · right
     cases ho : t.ok with
     | false => rfl
     | true => exact absurd ⟨t, rfl, hk, ho⟩ h
   · exact .inl hk
theorem F1 {c : UInt8} (h : cZ c = true) : ow c = true /\ c.toNat ≠ 32 /\ c.toNat ≠ 10 /\ c.toNat ≠ 126 := by
 simp only [cZ, eo, jn, xd, jt, c7] at h
 simp only [ow, c7]
 omega
theorem uA {s : bh} (h : iZ s = true) : oz s = .ok [⟨1, s, 0⟩] := by
 have hlen := FG h
 unfold iZ at h
 rw [c7] at h
 rcases wM h with ⟨_, _, _, ⟨c, r, e, hc⟩, bm⟩ | h' | h' | h'
 · have AJ : sr s = (0, 0) := by
    unfold sr
    rw [if_neg (by omega)]
    have : s.findIdx? (fun c => !ow c) = none := by
     rw [List.findIdx?_eq_none_iff]
     intro x hx
     rw [ef] at bm
     have := F1 (bm x hx)
     simp [this.1]
    rw [this]
   unfold oz
   rw [AJ]
   simp only [ne_eq, not_true, if_false]
   obtain ⟨n, hn⟩ : ∃ n, s.length = n + 1 := ⟨r.length, by rw [e]; simp⟩
   rw [hn, lz]
   subst e
   have abN := F1 (show cZ c = true by rw [ef] at bm; exact bm c (by simp))
   simp only [ez]
   rw [if_neg (by omega), if_neg (by omega), h]
   simp only [ne_eq, not_true, if_false, o8, show ¬ ((0 : Nat) = 900) by omega, cr, ik]
   have ZD : r.length = n := by simpa using hn
   cases n with
   | zero => simp only [lz]
   | succ n =>
     rw [lz, List.drop_of_length_le (by simp)]
 · omega
 · omega
 · omega
where
 FG {s : bh} (h : iZ s = true) : s.length <= 12 := by
  unfold iZ at h
  rw [c7] at h
  rcases wM h with h | h | h | h
  · exact h.2.2.1
  · omega
  · omega
  · omega
theorem Ib (s : bh) (hs : s.length <= 3000) : Pure K 208 [.str s] (.bool (iZ s)) := by
 intro U R hR
 refine Mw ?_
 unfold Mv
 refine (FU s hs).go ?_
 cases hl : oz s with
 | bad p e =>
   have hn : iZ s = false := by
    cases h : iZ s with
    | false => rfl
    | true => rw [uA h] at hl; cases hl
   rw [hn] at hR
   have he : e ≠ 0 := by
    unfold oz at hl
    split at hl
    split at hl
    · rename_i he; cases hl; exact he
    · exact rQ _ _ _ _ hl
   simp only [wN, cz, List.drop, bM, aX, ah, he, ct, aI, show (false == true) = false from rfl, aC, a7, aA, bo, if_false]
   exact ak.mk hR
 | ok L =>
   simp only [wN, cz, List.drop, bM, aX, ah, bT, aI, dG]
   have htl := PI L
   have hlen : bz (some false) (uW L) = .val (.int .i64 L.length) := htl.len
   refine dq ?_
   rw [hlen]
   refine dq ?_
   rw [aX]
   refine dq ?_
   simp only [aA, if_true, ah]
   by_cases h1 : L.length = 1
   · match L, h1 with
     | [t], _ =>
       have oT : qF t := (R8 hl).1 t (by simp)
       have tok : ∀ (o : Nat) (c : AV) (kq : AV -> Prop), (nh t)[o]? = some c -> kq c -> ad K (.bool true) (aF (some (51, 3)) none (uW [t]) (.int .i64 0)) fun a => ad K (.bool true) (ag (some o) a) fun b => ad K (.bool true) (ao (some (false, 1)) b U) kq := fun o c kq hc hk => by
        obtain ⟨r', qU⟩ := yq hc []
        refine ij ⟨by simp, ?_⟩
        refine ij ?_
        simp only [Int.toNat_zero, Nat.zero_mul, ez, dA, av]
        refine ij ?_
        rw [oF, show gL [t] = nh t ++ [] from rfl, qU, fM]; exact hk
       simp only [jL, o8, cr, show ((1 : Nat) : Int) = 1 from rfl, bT, aI, dG]
       refine dq (tok 0 (.int .u8 t.k) _ rfl ?_)
       rw [aX]
       refine dq ?_
       simp only [aA, if_true, ah]
       by_cases hk : (t.k : Int) = 1
       · simp only [hk, bT, aI, dG]
         refine dq (tok 1 (.str t.s) _ rfl (dq ?_))
         rw [iB]
         refine dq ?_
         simp only [aA, if_true, ah]
         refine ak.eq hR ?_
         rw [AV.bool.injEq, lY, c7]
         constructor
         · intro h
           have := oT.2
           rw [show t.k = 1 by omega] at this
           rw [<- h]; unfold iZ; rw [this]; simp
         · intro h
           rw [uA h] at hl
           cases hl; rfl
       · simp only [hk, ct, aI, show (false == true) = false from rfl, aC, a7, aA, bo, if_false, ah]
         refine ak.eq hR ?_
         cases h : iZ s with
         | false => rfl
         | true => rw [uA h] at hl; cases hl; exact absurd rfl hk
   · have Di : ¬ (L.length : Int) = 1 := by omega
     simp only [Di, ct, aI, show (false == true) = false from rfl, aC, a7, aA, bo, if_false, ah]
     refine ak.eq hR ?_
     cases h : iZ s with
     | false => rfl
     | true => rw [uA h] at hl; cases hl; exact absurd rfl h1
where
 PI (l : List Tk) : eh (uW l) l.length (gL l) := by
  unfold uW
  split
  · rename_i h; subst h; exact .inl ⟨rfl, rfl, rfl⟩
  · exact .inr ⟨_, rfl⟩
 rQ : ∀ (f : Nat) (s : bh) (p : Nat) (l : List Tk) {q : Nat} {e : Int}, lz f s p l = .bad q e -> e ≠ 0
  | 0, s, p, l, q, e, h => by simp [lz] at h
  | f + 1, s, p, l, q, e, h => by
    simp only [lz] at h
    split at h
    · cases h
    · split at h
      · exact rQ f s _ l h
      · split at h
        · exact rQ f s _ l h
        · split at h
          · rename_i he; cases h; exact he
          · split at h
            · cases h; omega
            · exact rQ f s _ _ h
end Go.Rip
