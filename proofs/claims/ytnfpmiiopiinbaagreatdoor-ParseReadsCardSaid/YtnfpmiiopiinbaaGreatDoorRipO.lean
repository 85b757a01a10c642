/- Lemmas for the proof: no conditions. -/
import Derived.Test.YtnfpmiiopiinbaaGreatDoorRipZz
import Derived.Test.YtnfpmiiopiinbaaGreatDoorRipN
set_option linter.unusedVariables false
set_option linter.unusedSimpArgs false
set_option linter.loopingSimpArgs false
namespace Go.Rip
open Go.Proofs Go.RowKit
section
variable {X : Rx} {i : Nat}
theorem GK {U : St} {r : Nat} {w : aZ} {K' : AV -> St -> Prop} {Kp : AV -> St -> Prop} (hr : U.box r = some (rd X i)) (hi : i <= X.L.length) (h : ∀ b af, bl X.L i w = b -> eg r (rd X i) U af -> K' (.bool b) af) :
 (aA (some (9, 1)) (some [AV.str []]) 1 false [(0, .str w)]).wp K U (fun v U => ad K 105 [.box r 0, v] U (ai K' Kp)) Kp := by
 rw [dE]
 refine ⟨by omega, ?_⟩
 rw [c6 (o := 0) (s := 1) rfl]
 refine ⟨⟨rfl, rfl, by simp [bB]⟩, ?_⟩
 rw [er]
 refine ⟨rfl, ?_⟩
 refine J3 (l := [w]) hr hi (by simp) fun bP e1 => ?_
 exact h _ _ (by rw [zb]) (.pK hr e1)
theorem zi {U : St} {r : Nat} {R : cS -> St -> Prop} {f : FuncId} {p : PR (List Nd)} (C : Ct X f i p) (hr : U.box r = some (rd X i)) (O : Out X r U R p) : ad K f [.box r 0] U (ai (fun v U => al R v U) (aa R)) :=
 C r U _ hr ⟨fun ns j e hj a af hk A => al.mk (O.ok ns j e hj a af hk A), O.bad⟩
theorem y0 (hi : i <= X.L.length) : Ct X 108 i (fJ X.L X.E i) := by
 intro r U R hr O
 refine Nk ?_
 unfold Nj
 refine fP hr hi fun k bP S => ?_
 simp only [bu, aj, aR, bW]
 intro j hj
 unfold fJ at O
 refine qq S (fun h1 bI S => ?_) fun h1 bI S => ?_
 · rw [if_pos h1] at O
   simp only [aK]
   exact yG S fun bQ S => hj _ _ (dW S O)
 rw [if_neg (by rw [h1]; simp)] at O
 simp only [aE]
 refine qq S (fun h2 bI S => ?_) fun h2 bI S => ?_
 · rw [if_pos h2] at O
   simp only [aK]
   exact yG S fun bQ S => hj _ _ (dW S O)
 rw [if_neg (by rw [h2]; simp)] at O
 simp only [aE]
 refine qq S (fun h3 bI S => ?_) fun h3 bI S => ?_
 · rw [if_pos h3] at O
   simp only [aK]
   exact nX S O fun x bQ S O => zh S fun cz S => yG S fun dm S => hj _ _ (dW S O)
 rw [if_neg (by rw [h3]; simp)] at O
 simp only [aE]
 exact dh S O fun bQ S O => nX S O fun x bQ S O => yG S fun dm S => hj _ _ (dW S O)
theorem HU (hi : i <= X.L.length) : Ct X 278 i (jK X.L X.E i) := by
 intro r U R hr O
 refine P2 ?_
 unfold P1
 refine fP hr hi fun k bP S => ?_
 simp only [bu, aj, aR, bW]
 exact mf S O fun x bQ S O => mg S fun dm S => dW S O
theorem IF {f : Nat} (hi : i <= X.L.length) (hf : X.L.length < f) : Ct X 104 i (lI X.L X.E f i) := by
 intro r U R hr O
 refine Nf ?_
 unfold Nc
 refine GK hr hi fun b bP hb A1 => ?_
 replace O := O.fB A1
 simp only [cZ, aj]
 unfold lI at O
 cases b with
 | false =>
   simp only [dk, aK]
   rw [if_neg (by rw [hb]; simp)] at O
   exact zi (y0 hi) A1.box O
 | true =>
   simp only [cC, aE]
   rw [if_pos hb] at O
   refine fP A1.box hi fun k bI S => ?_
   have O' : Out X r bP R ((bm X.L fR i).bind fun _ j => (jr X.L (fJ X.L X.E) f j).bind fun a j => (bm X.L eF j).bind fun _ j => (bm X.L gy j).bind fun _ j => (fJ X.L X.E j).bind fun b j => .ok (node 8 [] 0 0 (bM X.L X.E i) (a ++ b)) j) := by
    rw [show bm X.L fR i = .ok () (i + 1) by simp [bm, hb]]; exact O
   refine dh S O' fun bQ S O => ?_
   refine CR (by kernel_rfl) (fun i hi => y0 hi) (fun i hi => nE hi) (by omega) (by omega) S O fun ns j cz hj dt S O => ?_
   refine dh S O fun dm S O => dh S O fun gM S O => ?_
   exact gR S (y0 S.hi) (nE S.hi) O fun qf j2 mT mK vS S O => dW S O
theorem RC {f : Nat} (hi : i <= X.L.length) (hf : X.L.length < f) : Ct X 107 i (gm X.L X.E f i) := by
 intro r U R hr O
 refine Ni ?_
 unfold Nh
 refine fP hr hi fun k bP S => ?_
 simp only [bu, aj, aR, bW]
 refine mf S O fun x bI S O => mg S fun bQ S => dh S O fun cz S O => ?_
 exact gR S (IF S.hi hf) (sZ S.hi hf) O fun ns j dm hj dt S O => dW S O
theorem UR {f : Nat} (hi : i <= X.L.length) (hf : X.L.length < f) (hg : ∀ j, j <= X.L.length -> i < j -> Ct X 109 j (fy X.L X.E f j) /\ Gd X.L.length (j + 1) j (fy X.L X.E f j)) : Ct X 55 i (gB X.L X.E f i) := by
 intro r U R hr O
 refine R2 ?_
 unfold TY
 unfold gB at O
 refine fP hr hi fun k bP S => ?_
 simp only [bu, aj, aR, bW]
 refine qq S (fun h1 bI S => ?_) fun h1 bI S => ?_
 · rw [if_pos h1] at O
   simp only [aK]
   refine mf S O fun x bI S O => mg S fun bQ S => dh S O fun cz S O => ?_
   refine gR S (IF S.hi hf) (sZ S.hi hf) O fun ns j dm hj dt S O => ?_
   exact dh S O fun gM S O => dW S O
 rw [if_neg (by rw [h1]; simp)] at O
 simp only [aE]
 refine zh S fun bQ S => ?_
 intro j hj
 have rest : ∀ (kk : Int) (p : Nat) (af : St), i < p -> Sk X U r k p kk [] 0 0 (bM X.L X.E i) [] af -> Out X r U R ((dM X.L p).bind fun x j => (bm X.L fR j).bind fun _ j =>
  (if bl X.L j eF = true then .ok [] j else jr X.L (gm X.L X.E f) f j).bind fun a j =>
  (bm X.L eF j).bind fun _ j => (bm X.L ja j).bind fun _ j => (fJ X.L X.E j).bind fun b j => (bm X.L lJ j).bind fun _ j => (fy X.L X.E f j).bind fun c j =>
  (bm X.L gE j).bind fun _ j => .ok (node kk x 0 0 (bM X.L X.E i) (a ++ b ++ c)) j) -> j (.box r 0) (.box k 0) af := by
  intro kk p af hp S O
  refine hj _ _ _ ?_
  refine mf S O fun x bI S O => ?_
  simp only [bu, aj, aR, bW]
  refine mg S fun bQ S => dh S O fun cz S O => ?_
  intro j1 tG
  have wA : ∀ (ns : List Nd) (q : Nat) (af : St), i < q -> Sk X U r k q kk x 0 0 (bM X.L X.E i) ns af -> Out X r U R ((bm X.L eF q).bind fun _ j => (bm X.L ja j).bind fun _ j => (fJ X.L X.E j).bind fun b j => (bm X.L lJ j).bind fun _ j => (fy X.L X.E f j).bind fun c j =>
   (bm X.L gE j).bind fun _ j => .ok (node kk x 0 0 (bM X.L X.E i) (ns ++ b ++ c)) j) -> j1 (.box r 0) (.box k 0) af := by
   intro ns q af hq S O
   refine tG _ _ _ ?_
   refine dh S O fun cz S O => dh S O fun cz S O => ?_
   refine gR S (y0 S.hi) (nE S.hi) O fun qf j2 mT mK vS S O => ?_
   refine dh S O fun cz S O => ?_
   obtain ⟨g1, g2⟩ := hg _ S.hi (by omega)
   exact gR S g1 g2 O fun qf j2 mT mK vS S O => dh S O fun cz S O => dW S O
  refine Qb S fun b dm hb S => ?_
  simp only [cZ, aj]
  cases b with
  | false =>
    simp only [dk, aK]
    rw [if_neg (by rw [hb]; simp)] at O
    have iN := X.small
    refine CR (by kernel_rfl) (fun i hi => RC hi hf) (fun i hi => yj hi hf) (by omega) (by omega) S O fun ns j cz hj dt S O => ?_
    exact wA _ _ _ (by omega) S O
  | true =>
    simp only [cC, aE]
    rw [if_pos hb] at O
    exact wA _ _ _ (by omega) S O
 refine qq S (fun h2 cz S => ?_) fun h2 cz S => ?_
 · rw [if_pos h2] at O
   simp only [aK]
   exact zh S fun dm S => rest _ _ _ (by omega) S O
 · rw [if_neg (by rw [h2]; simp)] at O
   simp only [aE]
   have e : ∀ (p : PR Unit) (q : Int -> Nat -> PR (List Nd)), (p.bind fun _ j => PR.ok (4 : Int) j).bind q = p.bind fun _ j => q 4 j := fun p q => by cases p <;> rfl
   rw [e] at O
   exact dh S O fun dm S O => rest _ _ _ (by omega) S O
end
end Go.Rip
namespace Go.Rip
open Go.Proofs Go.RowKit
theorem J2 {c : kh} (o : Option Tk) (l : List aZ) (hn : l.length <= 100000) (hc : closed (.vec l.length c (l.map .str)) = true) : Pure K 121 [.agg (pN o), .vec l.length c (l.map .str)] (.bool (uy o l)) := by
 refine Pure.of ?_ rfl (fun U => rfl) fun R hR => Aq o l hn fun af _ => hR af
 have : closed (.agg (pN o)) = true := by cases o <;> rfl
 simp only [cL, this, hc, Bool.and_self]
section
variable {X : Rx} {ay U : St} {r k i : Nat} {kind : Int} {text : aZ} {n m at_ : Int} {l : List Nd} {R : cS -> St -> Prop} {K' : AV -> St -> Prop} {Kp : AV -> St -> Prop} {w : aZ} {f : FuncId}
def iq (X : Rx) (f i : Nat) : Prop := ∀ j, j <= X.L.length -> i < j -> Ct X 169 j (bR X.L X.E f j) /\ Gd X.L.length (j + 1) j (bR X.L X.E f j)
def Cm (X : Rx) (f : Nat) (fin : List Nd -> Nat -> PR (List Nd)) : List aZ -> List Nd -> Nat -> PR (List Nd)
 | [], acc, i => fin acc i
 | w :: ws, acc, i => (bm X.L w i).bind fun _ j => (bR X.L X.E f j).bind fun a j => Cm X f fin ws (acc ++ a) j
theorem GM {fu i0 : Nat} (hF : iq X fu i0) {fin : List Nd -> Nat -> PR (List Nd)} (ws : List aZ) (hw : ws.length <= 10) (Bq : i0 <= i) (S : Sk X ay r k i kind text n m at_ l U) {ac : List Nd} (hac : ac = l) (O : Out X r ay R (Cm X fu fin ws ac i))
 (h : ∀ acc j af, Sk X ay r k j kind text n m at_ acc af -> Out X r ay R (fin acc j) -> al R (.box k 0) af) :
 cD 5 [.box r 0, .box k 0, .vec ws.length .full (ws.map .str), .int .i64 ws.length, .int .i64 0] U fun lp v0 v3 de ic v10 U =>
 (aq .lss (BT.mk false false false none) false v10 ic).wp K U (fun v11 U =>
 ao v11 (
  (aH (some (9, 1)) none de v10).wp K U (fun v12 U =>
  (av (some (false, 1)) v12 U).wp K U (fun bN U =>
  ad K 102 [v0, bN] U (ai (fun ca U =>
  ad K 169 [v0] U (ai (fun cn U =>
  (aA (some (87, 1)) (some [AV.bj]) 1 false [(0, cn)]).wp K U (fun v20 U =>
  ad K 103 [v3, v20] U (ai (fun v21 U =>
  (aq .add (BT.mk false false false none) true v10 (AV.int .i64 1)).wp K U (fun bY U =>
  lp v0 v3 de ic bY U) (aa R)) (aa R))) (aa R)) (aa R))) (aa R))) (aa R)) (aa R)) (
  al R v3 U)) (aa R) := by
 subst hac
 refine ⟨fun mm v0 v3 v8 v9 v10 af => ∃ t acc j, t <= ws.length /\ mm = ws.length - t /\ v0 = .box r 0 /\ v3 = .box k 0 /\ v8 = .vec ws.length .full (ws.map .str) /\ v9 = .int .i64 ws.length /\ v10 = .int .i64 (t : Nat) /\ i0 <= j /\ Sk X ay r k j kind text n m at_ acc af /\ Out X r ay R (Cm X fu fin (ws.drop t) acc j),
  ⟨_, 0, _, _, by omega, rfl, rfl, rfl, rfl, rfl, rfl, Bq, S, O⟩, ?_⟩
 rintro mm v0 v3 v8 v9 v10 bP ⟨t, acc, j, ht, rfl, rfl, rfl, rfl, rfl, rfl, dt, S, O⟩
 simp only [bh, aj, aT]
 refine ⟨fun aL => ?_, fun gk => ?_⟩
 · have aL : t < ws.length := by omega
   have hd : (ws.map AV.str).drop (t * 1) = .str ws[t] :: (ws.map AV.str).drop (t + 1) := by
    rw [Nat.mul_one, gX (by simpa using aL)]; simp
   have pD : ws.drop t = ws[t] :: ws.drop (t + 1) := gX aL
   rw [pD] at O
   simp only [uM, dR, hd, mR, bq]
   refine ⟨by omega, ?_⟩
   unfold Cm at O
   refine dh S O fun bI S O => ?_
   obtain ⟨g1, g2⟩ := hF _ S.hi (by omega)
   refine gR S g1 g2 O fun ns j2 bQ mK vS S O => ?_
   simp only [cI]
   refine ⟨bp (by omega) (by omega), ws.length - (t + 1), by omega, t + 1, _, _, aL, rfl, rfl, rfl, rfl, rfl, rfl, by omega, S, O⟩
 · have : t = ws.length := by omega
   subst this
   rw [List.drop_length] at O
   exact h _ _ _ S O
theorem Lf {fu : Nat} (hi : i <= X.L.length) (hF : iq X fu i) : Ct X 158 i ((bm X.L yS i).bind fun _ j => (bR X.L X.E fu j).bind fun c j => (bm X.L tt j).bind fun _ j => (bR X.L X.E fu j).bind fun a j => (bm X.L jI j).bind fun _ j => (bR X.L X.E fu j).bind fun b j => .ok (node 10 [] 0 0 (bM X.L X.E i) (c ++ a ++ b)) j) := by
 intro r U R hr O
 refine Ow ?_
 unfold Ov
 refine fP hr hi fun k bP S => ?_
 rw [dE]
 refine ⟨by omega, ?_⟩
 rw [c6 (o := 0) (s := 1) rfl]
 refine ⟨⟨rfl, rfl, by simp [bB]⟩, ?_⟩
 rw [c6 (o := 1) (s := 1) rfl]
 refine ⟨⟨rfl, rfl, by simp [bB, az]⟩, ?_⟩
 rw [c6 (o := 2) (s := 1) rfl]
 refine ⟨⟨rfl, rfl, by simp [bB, az]⟩, ?_⟩
 rw [er]
 refine ⟨rfl, ?_⟩
 simp only [pH, aj]
 exact GM (fin := fun acc j => .ok (node 10 [] 0 0 (bM X.L X.E i) acc) j) hF [yS, tt, jI] (by simp) (cG _) S rfl O fun acc j af S O => dW S O
theorem UW {fu : Nat} (hi : i <= X.L.length) (hF : iq X fu i) : Ct X 159 i ((bm X.L pQ i).bind fun _ j => (bR X.L X.E fu j).bind fun a j => (bm X.L AN j).bind fun _ j => (bR X.L X.E fu j).bind fun b j => .ok (node 11 [] 0 0 (bM X.L X.E i) (a ++ b)) j) := by
 intro r U R hr O
 refine Oy ?_
 unfold Ox
 refine fP hr hi fun k bP S => ?_
 rw [dE]
 refine ⟨by omega, ?_⟩
 rw [c6 (o := 0) (s := 1) rfl]
 refine ⟨⟨rfl, rfl, by simp [bB]⟩, ?_⟩
 rw [c6 (o := 1) (s := 1) rfl]
 refine ⟨⟨rfl, rfl, by simp [bB, az]⟩, ?_⟩
 rw [er]
 refine ⟨rfl, ?_⟩
 simp only [pH, aj]
 exact GM (fin := fun acc j => .ok (node 11 [] 0 0 (bM X.L X.E i) acc) j) hF [pQ, AN] (by simp) (cG _) S rfl O fun acc j af S O => dW S O
theorem lu {fu i0 : Nat} {q : List Nd -> Nat -> PR (List Nd)} (hF : iq X fu i0) (h0 : i0 < i) (S : Sk X ay r k i kind text n m at_ l U) (O : Out X r ay R ((bR X.L X.E fu i).bind q))
 (h : ∀ ns j af, j <= X.L.length -> i < j -> Sk X ay r k j kind text n m at_ (l ++ ns) af -> Out X r ay R (q ns j) -> K' (.box k 0) af) :
 ad K 169 [.box r 0] U (ai (fun v U => (aA (some (87, 1)) (some [AV.bj]) 1 false [(0, v)]).wp K U (fun v U => ad K 103 [.box k 0, v] U (ai K' (aa R))) (aa R)) (aa R)) :=
 gR S (hF _ S.hi h0).1 (hF _ S.hi h0).2 O h
theorem UD {fu : Nat} (hi : i <= X.L.length) (hF : iq X fu i) : Ct X 160 i ((bm X.L wP i).bind fun _ j => (dM X.L j).bind fun x j => (bm X.L ja j).bind fun _ j => (fQ X.L j).bind fun n j => (bm X.L cx j).bind fun _ j => (fQ X.L j).bind fun m j => (bm X.L pv j).bind fun _ j => (bR X.L X.E fu j).bind fun a j => .ok (node 12 x n m (bM X.L X.E i) a) j) := by
 intro r U R hr O
 refine OA ?_
 unfold Oz
 refine fP hr hi fun k bP S => ?_
 simp only [bu, aj, aR, bW]
 refine dh S O fun _ S O => mf S O fun x _ S O => mg S fun _ S => dh S O fun _ S O => nX S O fun _ _ S O => yG S fun _ S => dh S O fun _ S O => nX S O fun _ _ S O => acE S fun _ S => dh S O fun _ S O => ?_
 exact lu hF (by omega) S O fun ns j dm hj dt S O => dW S O
theorem Rk {fu : Nat} (hi : i <= X.L.length) (hF : iq X fu i) : Ct X 161 i ((bm X.L qZ i).bind fun _ j => (dM X.L j).bind fun x j => (bm X.L pv j).bind fun _ j => (bR X.L X.E fu j).bind fun a j => (bm X.L jI j).bind fun _ j => (bR X.L X.E fu j).bind fun b j => .ok (node 13 x 0 0 (bM X.L X.E i) (a ++ b)) j) := by
 intro r U R hr O
 refine OC ?_
 unfold OB
 refine fP hr hi fun k bP S => ?_
 simp only [bu, aj, aR, bW]
 refine dh S O fun _ S O => mf S O fun x _ S O => mg S fun _ S => dh S O fun _ S O => ?_
 refine lu hF (by omega) S O fun ns j dm hj dt S O => dh S O fun _ S O => ?_
 exact lu hF (by omega) S O fun ns j dm hj dt S O => dW S O
theorem Lg {fu : Nat} (hi : i <= X.L.length) (hF : iq X fu i) : Ct X 162 i ((bm X.L ly i).bind fun _ j => (bR X.L X.E fu j).bind fun a j => (bm X.L jI j).bind fun _ j => (bR X.L X.E fu j).bind fun b j => .ok (node 15 [] 0 0 (bM X.L X.E i) (a ++ b)) j) := by
 intro r U R hr O
 refine OE ?_
 unfold OD
 refine fP hr hi fun k bP S => ?_
 refine dh S O fun _ S O => ?_
 refine lu hF (by omega) S O fun ns j dm hj dt S O => dh S O fun _ S O => ?_
 exact lu hF (by omega) S O fun ns j dm hj dt S O => dW S O
theorem MI {fu : Nat} (hi : i <= X.L.length) (hF : iq X fu i) : Ct X 163 i ((bm X.L mI i).bind fun _ j => (dM X.L j).bind fun x j => (bm X.L cx j).bind fun _ j => (fQ X.L j).bind fun n j => (bm X.L pv j).bind fun _ j => (bR X.L X.E fu j).bind fun a j => .ok (node 14 x n 0 (bM X.L X.E i) a) j) := by
 intro r U R hr O
 refine OG ?_
 unfold OF
 refine fP hr hi fun k bP S => ?_
 simp only [bu, aj, aR, bW]
 refine dh S O fun _ S O => mf S O fun x _ S O => mg S fun _ S => dh S O fun _ S O => nX S O fun _ _ S O => yG S fun _ S => dh S O fun _ S O => ?_
 exact lu hF (by omega) S O fun ns j dm hj dt S O => dW S O
end
end Go.Rip
namespace Go.Rip
open Go.Proofs Go.RowKit
def jL : List (aZ × Nat) := [(ly, 162), (yS, 158), (qZ, 161), (wP, 160), (mI, 163), (pQ, 159)]
theorem JF : qG = .fS (jL.map fun p => .str p.1) (jL.map fun p => .func (.func p.2) [] []) := rfl
theorem tQ (s : aZ) (z : AV) : ∀ l : List (aZ × AV), p8 .s (.str s) z true (l.map fun p => .str p.1) (l.map fun p => p.2) = .val (.aU [match l.find? (fun p => p.1 = s) with | some p => p.2 | none => z, .bool (l.find? (fun p => p.1 = s)).isSome])
 | [] => rfl
 | p :: l => by
   simp only [et, p8, iw, List.find?_cons]
   by_cases h : s = p.1
   · subst h; simp
   · have h' : ¬ p.1 = s := fun e => h e.symm
     simp only [h', cM]
     rw [show (s == p.1) = false by simp [h]]
     simpa using tQ s z l
theorem JD (s : aZ) (U : St) : iB (some (.s, 186)) (some AV.jt) qG (.str s) true U = .val (.aU [match jL.find? (fun p => p.1 = s) with | some p => .func (.func p.2) [] [] | none => .jt, .bool (jL.find? (fun p => p.1 = s)).isSome]) := by
 rw [JF]
 have := tQ s .jt (jL.map fun p => (p.1, AV.func (.func p.2) [] []))
 simp only [iB, mq, p6]
 rw [List.map_map, List.map_map] at this
 rw [show (jL.map fun p => AV.str p.1) = List.map ((fun p : aZ × AV => AV.str p.1) ∘ fun p => (p.1, AV.func (.func p.2) [] [])) jL from rfl, show (jL.map fun p => AV.func (.func p.2) [] []) = List.map ((fun p : aZ × AV => p.2) ∘ fun p => (p.1, AV.func (.func p.2) [] [])) jL from rfl, this]
 congr 2
 rw [List.find?_map]
 have e : ((fun p : aZ × AV => decide (p.1 = s)) ∘ fun p : aZ × Nat => (p.1, AV.func (.func p.2) [] [])) = fun p => decide (p.1 = s) := rfl
 rw [e]
 cases jL.find? fun p => decide (p.1 = s) <;> rfl
theorem zt (o : Option Tk) : Pure K 61 [.agg (pN o)] (.bool (uy o [fA, jS, ff])) := by
 refine Pure.of ?_ rfl (fun U => rfl) fun R hR => ?_
 · cases o <;> rfl
 refine R8 ?_
 have ht : (pN o).length = 3 := by cases o <;> rfl
 unfold Ua
 rw [jR rfl]
 intro b hb
 rw [show aC (.agg (pN o)) = pN o from rfl, ow aW]
 refine ⟨by simp [ht], ?_⟩
 rw [dE]
 refine ⟨by omega, ?_⟩
 rw [c6 (o := 0) (s := 1) rfl]
 refine ⟨⟨rfl, rfl, by simp [bB]⟩, ?_⟩
 rw [c6 (o := 1) (s := 1) rfl]
 refine ⟨⟨rfl, rfl, by simp [bB, az]⟩, ?_⟩
 rw [c6 (o := 2) (s := 1) rfl]
 refine ⟨⟨rfl, rfl, by simp [bB, az]⟩, ?_⟩
 rw [er]
 refine ⟨rfl, ?_⟩
 rw [eR, uD (by omega)]
 exact Aq (c := .full) o [fA, jS, ff] (by simp) fun af _ => al.mk (hR af)
theorem IU (L : List Tk) (i : Nat) : uy L[i]? [fA, jS, ff] = oF L i := by
 unfold uy oF bl
 cases h : L[i]? with
 | none => rfl
 | some t =>
   simp only [h]
   cases hk : (t.k == 3 || t.k == 4) with
   | false => simp
   | true =>
     simp only [Bool.true_and]
     rw [nq]
     simp [or_assoc]
section
variable {X : Rx} {ay U : St} {r k i : Nat} {R : cS -> St -> Prop} {K' : AV -> St -> Prop} {Kp : AV -> St -> Prop} {f : FuncId}
theorem ZK {iK : FuncId} (he : hU K.P iK = true) {c : List AV} : (lz K.P (.func (.func iK) [] []) [.box r 0]).wp K U K' Kp = ad K iK [.box r 0] U (ai K' Kp) := by
 simp [lz, he]
def Co (X : Rx) (i lev : Nat) (p : PR (List Nd)) : Prop := ∀ (r : Nat) (U : St) (R : cS -> St -> Prop), U.box r = some (rd X i) -> Out X r U R p -> ad K 219 [.box r 0, .int .i64 (lev : Nat)] U R
theorem UK {s : aZ} {p : aZ × Nat} (h : jL.find? (fun p => p.1 = s) = some p) : p ∈ jL /\ p.1 = s := ⟨List.mem_of_find?_eq_some h, by simpa using List.find?_some h⟩
theorem QH {fu : Nat} (hi : i <= X.L.length) (hF : iq X fu i) (hO : Co X i 2 (eo X.L X.E fu 2 i)) : Ct X 169 i (bR X.L X.E (fu + 1) i) := by
 intro r U R hr O
 refine OP ?_
 unfold OO
 refine pt hr hi 0 (by omega) fun bP e1 => ?_
 rw [Nat.add_zero]
 obtain ⟨kd, s, a, e, hm⟩ := tY X.L[i]?
 rw [e]
 simp only [bg, oc]
 intro b hb
 have xd := e1.bU hr
 have e2 := e1.new (x := .box [AV.int .u8 0, AV.str [], AV.int .i64 0]) hb
 rw [show NV.at b .box = AV.box b 0 from rfl, cT aW]
 refine ⟨⟨rfl, rfl, by simp⟩, ?_⟩
 have e3 := e2.set (x := .box (az [AV.int .u8 0, AV.str [], AV.int .i64 0] 0 (aC (.agg [.int .u8 kd, .str s, .int .i64 a])))) (e1.fresh hb.1)
 generalize rZ : (bP.new b (.box [AV.int .u8 0, AV.str [], AV.int .i64 0])).set b (.box (az [AV.int .u8 0, AV.str [], AV.int .i64 0] 0 (aC (.agg [.int .u8 kd, .str s, .int .i64 a])))) = bQ at e3 ⊢
 have lB : bQ.box b = some [.int .u8 kd, .str s, .int .i64 a] := by rw [<- rZ, bf]; rfl
 have xe := e3.bU hr
 have A3 : eg r (rd X i) U bQ := .pK hr e3
 replace O := O.fB A3
 have fN : ∀ t, X.L[i]? = some t -> s = t.s /\ kd = t.k := fun t ht => by
  rw [ht] at e; simp only [pN, jo, List.cons.injEq, AV.str.injEq, AV.int.injEq, true_and] at e; exact ⟨e.2.1.symm, e.1.symm⟩
 simp only [bu, aJ, aR, jC xe, rd, List.drop, fw, bW, jC lB, JD, bC, aS, aM, iz]
 have hkw : ∀ w ∈ jL.map (·.1), bl X.L i w = true -> kd = 3 /\ s = w := fun w hw h => by
  have : ∀ w ∈ jL.map (·.1), w ∈ kr := by decide
  obtain ⟨t, ht, hk, hs⟩ := Iv X.ok (this w hw) h
  obtain ⟨h1, h2⟩ := fN t ht
  exact ⟨by omega, h1.trans hs⟩
 have fin : (¬ (kd = 3 /\ s ∈ jL.map (·.1))) -> (∀ w ∈ jL.map (·.1), bl X.L i w = false) := fun h w hw => by
  cases hx : bl X.L i w with
  | false => rfl
  | true => obtain ⟨h1, h2⟩ := hkw w hw hx; exact absurd ⟨h1, h2 ▸ hw⟩ h
 by_cases hc : kd = 3 /\ s ∈ jL.map (·.1)
 · obtain ⟨h3, hs⟩ := hc
   obtain ⟨t, ht, hk, To⟩ := (hm 3 (by omega)).1 h3
   subst h3
   have u6 : bl X.L i s = true := CN ht (.inl hk) To
   have cH : ∀ w ∈ jL.map (·.1), w ≠ s -> ¬ (bl X.L i w = true) := fun w hw hn h => hn (hkw w hw h).2.symm
   have key : ∃ iK, jL.find? (fun p => p.1 = s) = some (s, iK) /\ hU K.P iK = true /\ ∃ p, Ct X iK i p /\ bR X.L X.E (fu + 1) i = p := by
    have hnd : bm X.L s i = .ok () (i + 1) := by simp [bm, u6]
    have dT : s ∈ jL.map (·.1) := hs
    simp only [jL, et, jk, fC, List.not_mem_nil, or_false] at hs
    rcases hs with rfl | rfl | rfl | rfl | rfl | rfl
    · exact ⟨162, rfl, by kernel_rfl, _, Lg hi hF, by rw [bR, if_neg (cH _ (by decide) (by decide)), if_neg (cH _ (by decide) (by decide)), if_neg (cH _ (by decide) (by decide)), if_neg (cH _ (by decide) (by decide)), if_pos u6, hnd]; rfl⟩
    · exact ⟨158, rfl, by kernel_rfl, _, Lf hi hF, by rw [bR, if_pos u6, hnd]; rfl⟩
    · exact ⟨161, rfl, by kernel_rfl, _, Rk hi hF, by rw [bR, if_neg (cH _ (by decide) (by decide)), if_neg (cH _ (by decide) (by decide)), if_neg (cH _ (by decide) (by decide)), if_pos u6, hnd]; rfl⟩
    · exact ⟨160, rfl, by kernel_rfl, _, UD hi hF, by rw [bR, if_neg (cH _ (by decide) (by decide)), if_neg (cH _ (by decide) (by decide)), if_pos u6, hnd]; rfl⟩
    · exact ⟨163, rfl, by kernel_rfl, _, MI hi hF, by rw [bR, if_neg (cH _ (by decide) (by decide)), if_neg (cH _ (by decide) (by decide)), if_neg (cH _ (by decide) (by decide)), if_neg (cH _ (by decide) (by decide)), if_neg (cH _ (by decide) (by decide)), if_pos u6, hnd]; rfl⟩
    · exact ⟨159, rfl, by kernel_rfl, _, UW hi hF, by rw [bR, if_neg (cH _ (by decide) (by decide)), if_pos u6, hnd]; rfl⟩
   obtain ⟨iK, h1, h2, p, h3, h4⟩ := key
   rw [h1]
   simp only [Option.isSome_some, dN, bG, aJ, eN, jC lB, List.drop, fw, aV, cj, aF, if_true, aj, aK]
   rw [ZK h2 (c := [])]
   rw [h4] at O
   exact zi h3 xe O
 · have hw := fin hc
   have hf : ∀ w ∈ jL.map (·.1), ¬ (bl X.L i w = true) := fun w h => by rw [hw w h]; simp
   rw [bR, if_neg (hf _ (by decide)), if_neg (hf _ (by decide)), if_neg (hf _ (by decide)), if_neg (hf _ (by decide)), if_neg (hf _ (by decide)), if_neg (hf _ (by decide))] at O
   have abG : ∀ (c : Option (aZ × Nat)) (A B : Prop), jL.find? (fun p => p.1 = s) = c -> (c.isSome = true -> kd ≠ 3) := fun c A B h1 h2 h3 => by
    cases c with
    | none => cases h2
    | some p => exact hc ⟨h3, by obtain ⟨k1, k2⟩ := UK h1; exact List.mem_map.2 ⟨p, k1, k2⟩⟩
   have sel : ∀ (V : AV) (A B : Prop), B -> ao (.bool false) A B := fun _ _ _ hB => by rw [aE]; exact hB
   have rest : gb 2
    (fun v0 dH U =>
      ao dH (
    ad K 99 [v0, (AV.int .u8 16)] U (ai (fun eL U =>
    ad K 101 [v0] U (ai (fun gT U =>
    (aI eL).wp K U (fun kD U =>
    (ag (some 0) kD).wp K U (fun eJ U =>
    (ag (some 1) eJ).wp K U (fun jv U =>
    (aD (some (false, 1)) jv gT U).wp K U (fun _ U =>
    ad K 102 [v0, (AV.str cx)] U (ai (fun v46 U =>
    ad K 169 [v0] U (ai (fun v49 U =>
    (aA (some (87, 1)) (some [AV.bj]) 1 false [(0, v49)]).wp K U (fun fx U =>
    ad K 103 [eL, fx] U (ai (fun v51 U =>
    al R v51 U) (aa R))) (aa R)) (aa R))) (aa R))) (aa R)) (aa R)) (aa R)) (aa R)) (aa R))) (aa R))) (
    ad K 219 [v0, (AV.int .i64 2)] U (ai (fun v53 U =>
    al R v53 U) (aa R)))) (fun j =>
     aw.wp K bQ
      (fun cO U =>
        aw.wp K U
         (fun v30 U =>
           ae K (au v30 true) (aw.val (AV.box r 0)) fun ep =>
            ao (au v30 true)
             (ad K 167 [ep, AV.int IntKind.i64 1] U
               (ai
                 (fun dY U =>
                   ae K (au v30 true)
                    (aA (some (9, 1)) (some [AV.str []]) 1 false [(0, AV.str cx)]) fun eK =>
                    ae K (au v30 true) (aw.enter 121 [dY, eK]) fun ef =>
                     aw.wp K U (fun wK U => j (AV.box r 0) wK U) (aa R)
                      (aY v30 ef (AV.bool false)))
                 (aa R)))
             (ae K (au v30 true)
               (aA (some (9, 1)) (some [AV.str []]) 1 false [(0, AV.str cx)]) fun KT =>
               ae K (au v30 true) (aw.enter 121 [AV.aU [], KT]) fun B6 =>
                aw.wp K U (fun wK U => j (AV.box r 0) wK U) (aa R)
                 (aY v30 B6 (AV.bool false))))
         (aa R)
         (aq BinOp.eql { b := false, i := false, p := false, f := none } true cO (AV.int IntKind.u8 1)))
      (aa R) (av (some (false, 1)) (AV.box b 0) bQ)) := by
    intro j hj
    have yes : eP X.L i 1 = true -> bl X.L (i + 1) cx = true -> ∀ cz, eg r (rd X i) bQ cz -> j (.box r 0) (.bool true) cz := fun g1 g2 cz A4 => by
     refine hj _ _ _ ?_
     rw [if_pos ⟨g1, g2⟩] at O
     replace O := O.fB A4
     rw [aK]
     refine fP A4.box hi fun k dm S => ?_
     simp only [bu, aj, aR, bW]
     refine mf S O fun x _ S O => mg S fun _ S => dh S O fun _ S O => ?_
     exact lu hF (by omega) S O fun ns j dm hj dt S O => dW S O
    have no : ¬ (eP X.L i 1 = true /\ bl X.L (i + 1) cx = true) -> ∀ cz, eg r (rd X i) bQ cz -> j (.box r 0) (.bool false) cz := fun g cz A4 => by
     refine hj _ _ _ ?_
     rw [if_neg g] at O
     replace O := O.fB A4
     rw [aE]
     exact hO r cz _ A4.box ⟨fun ns j e hj a af hk A => al.mk (O.ok ns j e hj a af hk A), O.bad⟩
    have oA : eP X.L i 1 = decide (kd = 1) := by
     unfold eP
     cases ht : X.L[i]? with
     | none => rw [ht] at e; simp only [pN, List.cons.injEq, AV.int.injEq, true_and] at e; simp [<- e.1]
     | some t => obtain ⟨_, h2⟩ := fN t ht; rw [h2]; rw [nq]; simp; omega
    rw [eG lB]
    simp only [List.drop, bq, aV, aj, aS]
    by_cases h1 : kd = 1
    · simp only [h1, cj, dN, aM, bG, aJ, eN, aK]
      refine pt xe hi 1 (by omega) fun cz e4 => ?_
      simp only [bg]
      rw [ti]
      refine ⟨by omega, ?_⟩
      rw [nR (o := 0) (s := 1) rfl]
      refine ⟨⟨rfl, rfl, by simp [bB]⟩, ?_⟩
      rw [vp]
      refine ⟨rfl, _, J2 (c := .full) (X.L[i + 1]?) [cx] (by simp) rfl, ?_⟩
      rw [zb]
      simp only [aF, if_true, aj]
      cases Tu : bl X.L (i + 1) cx with
      | true => exact yes (by rw [oA]; simp [h1]) Tu _ (.pK xe e4)
      | false => exact no (by rw [Tu]; simp) _ (.pK xe e4)
    · have tF : (decide (kd = 1) == true) = false := by simp [h1]
      simp only [tF, aM, bz, aE, h1, cM, aF, bH, if_false, aj]
      simp only [beq_true, bz, aE]
      exact no (by rw [oA]; simp [h1]) _ ⟨xe, gj.refl _ _⟩
   cases sQ : jL.find? (fun p => p.1 = s) with
   | none =>
     simp only [Option.isSome_none, bz, show (false == true) = false from rfl, aF, bH, if_false, aj, aE]
     exact rest
   | some p =>
     have h3 : ¬ kd = 3 := abG _ True True sQ rfl
     simp only [Option.isSome_some, dN, bG, aJ, eN, jC lB, List.drop, fw, aV, h3, cM, aF, if_true, aj, aE]
     exact rest
end
end Go.Rip
namespace Go.Rip
open Go.Proofs Go.RowKit
def vi (lev : Nat) : List (aZ × Int) :=
 if lev = 2 then [(yT, 17)] else if lev = 3 then [(ub, 18)] else if lev = 5 then [(sv, 21), (lJ, 20)] else if lev = 6 then [(sr, 22), (su, 23)] else if lev = 7 then [(so, 24)] else if lev = 8 then [(tq, 25)] else []
def TG (lev : Nat) : AV := .fS ((vi lev).map fun p => .str p.1) ((vi lev).map fun p => .int .u8 p.2)
theorem Rw (lev : Nat) (h : lev = 2 \/ lev = 3 \/ lev = 5 \/ lev = 6 \/ lev = 7 \/ lev = 8) (U : St) : iB (some (.i, 185)) (some AV.kx) Aw (.int .i64 (lev : Nat)) false U = .val (TG lev) := by
 rcases h with rfl | rfl | rfl | rfl | rfl | rfl <;> rfl
theorem Ry (lev : Nat) (s : aZ) (U : St) : iB (some (.s, 5)) (some (AV.int .u8 0)) (TG lev) (.str s) true U = .val (.aU [.int .u8 (match (vi lev).find? (fun p => p.1 = s) with | some p => p.2 | none => 0), .bool ((vi lev).find? (fun p => p.1 = s)).isSome]) := by
 have := tQ s (.int .u8 0) ((vi lev).map fun p => (p.1, AV.int .u8 p.2))
 rw [List.map_map, List.map_map, List.find?_map] at this
 simp only [iB, mq, p6, TG]
 rw [show ((vi lev).map fun p => AV.str p.1) = List.map ((fun p : aZ × AV => AV.str p.1) ∘ fun p => (p.1, AV.int .u8 p.2)) (vi lev) from rfl, show ((vi lev).map fun p => AV.int .u8 p.2) = List.map ((fun p : aZ × AV => p.2) ∘ fun p => (p.1, AV.int .u8 p.2)) (vi lev) from rfl, this]
 have e : ((fun p : aZ × AV => decide (p.1 = s)) ∘ fun p : aZ × Int => (p.1, AV.int .u8 p.2)) = fun p => decide (p.1 = s) := rfl
 rw [e]
 cases (vi lev).find? fun p => decide (p.1 = s) <;> rfl
theorem IV (L : List Tk) (lev i : Nat) : jB L lev i = ((vi lev).find? (fun p => p.1 = qW L[i]?)).map (·.2) := by
 have hw : ∀ w : aZ, w ≠ [] -> bl L i w = decide (w = qW L[i]?) := fun w h => by rw [DO h]; simp [eq_comm]
 unfold jB vi
 rw [hw yT (by decide), hw ub (by decide), hw lJ (by decide), hw sv (by decide), hw sr (by decide), hw su (by decide), hw so (by decide), hw tq (by decide)]
 generalize qW L[i]? = s
 repeat' split
 all_goals simp_all
 all_goals (subst_vars; rfl)
section
variable {X : Rx} {ay U : St} {r k i : Nat} {kind : Int} {text : aZ} {n m at_ : Int} {l : List Nd} {R : cS -> St -> Prop} {K' : AV -> St -> Prop} {Kp : AV -> St -> Prop}
theorem Ja (hr : U.box r = some (rd X i)) (hi : i <= X.L.length) (h : ∀ af, dr U af -> R (.ret (.str (qW X.L[i]?))) af) : ad K 253 [.box r 0] U R := by
 refine PO ?_
 unfold PN
 refine pt hr hi 0 (by omega) fun bP e1 => ?_
 rw [Nat.add_zero]
 have rk : ∃ kd s a, pN X.L[i]? = [.int .u8 kd, .str s, .int .i64 a] /\ qW X.L[i]? = if kd = 3 \/ kd = 4 then s else [] := by
  cases ht : X.L[i]? with
  | none => exact ⟨0, [], 0, rfl, rfl⟩
  | some t =>
    refine ⟨t.k, t.s, t.at_, rfl, ?_⟩
    have e3 : ((t.k : Int) = 3) = (t.k = 3) := by simp; omega
    have e4 : ((t.k : Int) = 4) = (t.k = 4) := by simp; omega
    simp only [qW, e3, e4]
 obtain ⟨kd, s, a, e, hsg⟩ := rk
 rw [e]
 rw [hsg] at h
 simp only [bg, oc]
 intro b hb
 have e2 := e1.new (x := .box [AV.int .u8 0, AV.str [], AV.int .i64 0]) hb
 rw [show NV.at b .box = AV.box b 0 from rfl, cT aW]
 refine ⟨⟨rfl, rfl, by simp⟩, ?_⟩
 have e3 := e2.set (x := .box (az [AV.int .u8 0, AV.str [], AV.int .i64 0] 0 (aC (.agg [.int .u8 kd, .str s, .int .i64 a])))) (e1.fresh hb.1)
 generalize rZ : (bP.new b (.box [AV.int .u8 0, AV.str [], AV.int .i64 0])).set b (.box (az [AV.int .u8 0, AV.str [], AV.int .i64 0] 0 (aC (.agg [.int .u8 kd, .str s, .int .i64 a])))) = bQ at e3 ⊢
 have lB : bQ.box b = some [.int .u8 kd, .str s, .int .i64 a] := by rw [<- rZ, bf]; rfl
 simp only [aR, aj, eG lB, List.drop, bq, bW, aV, aS, aM, iz, bG]
 by_cases h3 : kd = 3
 · subst h3
   simp [eG lB, bq]
   exact al.mk (h _ e3)
 · by_cases h4 : kd = 4
   · subst h4
     simp [eG lB, jC lB, bq]
     exact al.mk (h _ e3)
   · simp [eG lB, jC lB, bq, h3, h4]
     refine al.mk ?_
     have := h _ e3
     rw [if_neg (by omega)] at this
     exact this
theorem Qa (S : Sk X ay r k i kind text n m at_ l U) (aL : i < X.L.length) {bt : BT} {lit : Bool} (h : ∀ af, Sk X ay r k (i + 1) kind text n m at_ l af -> K' (.aU []) af) :
 (av (some (false, 1)) (.box r 1) U).wp K U (fun v U => (aq .add bt lit v (.int .i64 1)).wp K U (fun v U => (aD (some (false, 1)) (.box r 1) v U).wp K U K' Kp) Kp) Kp := by
 have hs := X.small
 have hr := S.A.box
 simp only [eG hr, rd, List.drop, bq, cI]
 refine ⟨bp (by omega) (by omega), ?_⟩
 rw [cT hr]
 refine ⟨⟨rfl, rfl, by simp [rd]⟩, h _ (S.fB (j := i + 1) ⟨?_, (gj.refl r U).set (.inr rfl)⟩ aL (by omega))⟩
 rw [bf]; simp [az, rd]
theorem dI.ne_nil : ∀ {b : Bool} {ks : List AV} {l : List Nd}, dI b ks l -> b = true -> l = [] -> ks = [] := by
 have h1 : ∀ {b : Bool} {ks : List AV} {l : List Nd}, dI b ks l -> b = false -> l ≠ [] := fun h e => by
  cases h with
  | mk _ _ => simp [node]
  | nil => cases e
  | cons _ _ => cases e
 intro b ks l h e hl
 cases h with
 | mk _ _ => cases e
 | nil => rfl
 | cons a c => exact absurd (List.append_eq_nil_iff.1 hl).1 (h1 a rfl)
theorem dI.cN {a : AV} {ns : List Nd} (hk : dI false [a] ns) : a.cN = true /\ aC a = [a] := by
 generalize hb : false = b at hk
 generalize hl : [a] = la at hk
 cases hk with
 | mk _ _ => cases hl; exact ⟨rfl, rfl⟩
 | nil => cases hl
 | cons _ _ => cases hb
theorem GL {a : AV} {ns : List Nd} (S : Sk X ay r k i kind text n m at_ [] U) (hk : dI false [a] ns) (h : ∀ a' af, dI false [a'] (node kind text n m at_ ns) -> eg r (rd X i) ay af -> K' a' af) :
 (aA (some (87, 1)) (some [AV.bj]) 1 false [(0, a)]).wp K U (fun v U => ad K 103 [.box k 0, v] U (ai K' Kp)) Kp := by
 obtain ⟨ks, h1, h2, h3⟩ := S.M
 have := h2.ne_nil rfl rfl
 subst this
 rw [dE]
 refine ⟨by omega, ?_⟩
 rw [c6 (o := 0) (s := 1) rfl]
 refine ⟨⟨hk.cN.1, by rw [hk.cN.2]; rfl, by simp [bB]⟩, ?_⟩
 rw [er, hk.cN.2]
 refine ⟨rfl, ?_⟩
 exact Jk (l2 := [a]) h1 S.A (by omega) rfl (by simp) fun af M A => M.done (h2.snoc hk) A fun a' af hk A => h a' af hk A
theorem So {a b : AV} {ns ms : List Nd} (S : Sk X ay r k i kind text n m at_ [] U) (hk : dI false [a] ns) (fY : dI false [b] ms) (h : ∀ a' af, dI false [a'] (node kind text n m at_ (ns ++ ms)) -> eg r (rd X i) ay af -> K' a' af) :
 (aA (some (87, 1)) (some [AV.bj]) 2 false [(0, a), (1, b)]).wp K U (fun v U => ad K 103 [.box k 0, v] U (ai K' Kp)) Kp := by
 obtain ⟨ks, h1, h2, h3⟩ := S.M
 have := h2.ne_nil rfl rfl
 subst this
 rw [dE]
 refine ⟨by omega, ?_⟩
 rw [c6 (o := 0) (s := 1) rfl]
 refine ⟨⟨hk.cN.1, by rw [hk.cN.2]; rfl, by simp [bB]⟩, ?_⟩
 rw [hk.cN.2]
 rw [c6 (o := 1) (s := 1) rfl]
 refine ⟨⟨fY.cN.1, by rw [fY.cN.2]; rfl, by simp [bB, az]⟩, ?_⟩
 rw [er, fY.cN.2]
 refine ⟨rfl, ?_⟩
 exact Jk (l2 := [a, b]) h1 S.A (by omega) rfl (by simp) fun af M A => M.done (by simpa using (h2.snoc hk).snoc fY) A fun a' af hk A => h a' af hk A
def EN (X : Rx) (fu : Nat) : Prop := ∀ f', f' <= fu -> ∀ j lev, j <= X.L.length -> 2 <= lev -> lev <= 9 -> 40 * (X.L.length - j) + (11 - lev) <= f' -> Co X j lev (eo X.L X.E f' lev j) /\ Gd X.L.length (j + 1) j (eo X.L X.E f' lev j)
theorem Vb {fu lev : Nat} (hi : i <= X.L.length) (h2 : 2 <= lev) (h9 : lev <= 9) (hf : 40 * (X.L.length - i) + (11 - lev) <= fu + 1) (hA : lev = 9 -> Ct X 252 i (iU X.L X.E fu i)) (hS : EN X fu) : Co X i lev (eo X.L X.E (fu + 1) lev i) := by
 intro r U R hr O
 refine Pj ?_
 unfold Ph
 have hs := X.small
 simp only [aV, aj, aT]
 refine ⟨fun e9 => ?_, fun n9 => ⟨fun e4 => ?_, fun n4 => ?_⟩⟩
 · have e9 : lev = 9 := by omega
   rw [eo, if_pos e9] at O
   exact zi (hA e9) hr O
 · have e4 : lev = 4 := by omega
   have n9 : ¬ lev = 9 := by omega
   rw [eo, if_neg n9, if_pos e4] at O
   refine fP hr hi fun k bP S => ?_
   refine qq S (fun hw bI S => ?_) fun hw bI S => ?_
   · rw [if_pos hw] at O
     simp only [aK]
     have aL := cu hw
     obtain ⟨g1, g2⟩ := hS fu (cG _) (i + 1) 4 aL (by omega) (by omega) (by omega)
     refine g1 r bI _ S.A.box ⟨fun ns j e hj a af hk A => ?_, fun j e af A => O.bad j (by rw [e]; rfl) af (S.A.trans A)⟩
     rw [e] at g2 O
     have dt : i + 1 < j := g2.1
     refine GL (S.fB A hj (by omega)) hk fun a' af xP A' => ?_
     exact al.mk (O.ok _ _ rfl hj a' af xP A')
   · rw [if_neg (by rw [hw]; simp)] at O
     simp only [aE, cI]
     refine ⟨bp (by omega) (by omega), ?_⟩
     obtain ⟨g1, g2⟩ := hS fu (cG _) i 5 hi (by omega) (by omega) (by omega)
     subst e4
     refine g1 r bI _ S.A.box ?_
     replace O := O.fB S.A
     exact ⟨fun ns j e hj a af hk A => al.mk (O.ok ns j e hj a af hk A), O.bad⟩
 · have n9 : ¬ lev = 9 := by omega
   have n4 : ¬ lev = 4 := by omega
   rw [eo, if_neg n9, if_neg n4] at O
   rw [cI]
   refine ⟨bp (by omega) (by omega), ?_⟩
   obtain ⟨g1, g2⟩ := hS fu (cG _) i (lev + 1) hi (by omega) (by omega) (by omega)
   rw [show ((lev : Nat) : Int) + 1 = ((lev + 1 : Nat) : Int) by omega]
   refine g1 r U _ hr ⟨fun ns j e hj a bP hk A => ?_, fun j e af A => O.bad j (by rw [e]; rfl) af A⟩
   rw [e] at g2 O
   have dt : i < j := g2.1
   replace O : Out X r bP R (ia X.L X.E fu lev ns j) := Out.fB O A
   refine ⟨fun mm v0 v1 v6 af => ∃ left j f', mm = X.L.length - j /\ v0 = .box r 0 /\ v1 = .int .i64 (lev : Nat) /\ j <= X.L.length /\ i < j /\ 40 * (X.L.length - j) + 1 <= f' /\ f' <= fu /\ dI false [v6] left /\ af.box r = some (rd X j) /\ Out X r af R (ia X.L X.E f' lev left j),
    ⟨_, ns, j, fu, rfl, rfl, rfl, hj, dt, by omega, cG _, hk, A.box, O⟩, ?_⟩
   clear hk A O dt hj e g1 g2
   rintro mm v0 v1 v6 bI ⟨left, j, f', rfl, rfl, rfl, hj, dt, Bl, kJ, hk, nJ, O⟩
   cases f' with
   | zero => omega
   | succ f' =>
     rw [ia, IV] at O
     simp only [bu, aJ, aR, bW, jC nJ, rd, List.drop, fw, Rw lev (by omega)]
     refine Ja nJ hj fun bQ e3 => ?_
     simp only [bg]
     refine ⟨?_, ?_, ?_⟩
     · intro b hb
       simp only [cr, Aw, oJ, mB, nS, fC, List.not_mem_nil, or_false] at hb
       subst hb
       cases e : bI.live b with
       | none => exact absurd e (dJ nJ)
       | some x => exact e3 b x e
     · intro b hb
       simp [cr, TG] at hb
     simp only [Ry, aJ, bC, List.drop, fw, cZ, aj]
     have A3 : eg r (rd X j) bI bQ := .pK nJ e3
     cases hop : (vi lev).find? fun p => p.1 = qW X.L[j]? with
     | none =>
       rw [hop] at O
       simp only [Option.isSome_none, dk, aK]
       exact al.mk (O.ok _ _ rfl hj _ bQ hk A3)
     | some p =>
       rw [hop] at O
       replace O := O.fB A3
       simp only [Option.isSome_some, cC, aE]
       have aL : j < X.L.length := IW (lev := lev) (k := p.2) (by rw [IV, hop]; rfl)
       refine fP A3.box hj fun k cz S => ?_
       simp only [bu, aj, aR, bW]
       refine Qa S aL fun dm S => ?_
       simp only [aV, aj, aT]
       simp only [Option.map_some] at O
       refine ⟨fun e8 => ?_, fun n8 => ?_⟩
       · have e8 : lev = 8 := by omega
         rw [if_pos e8] at O
         refine nX S O fun x gM S O => yG S fun mT S => ?_
         have iM := S.hi
         refine GL S hk fun a' af xP A' => ?_
         exact ⟨_, by omega, _, j + 1 + 1, f', rfl, rfl, rfl, S.hi, by omega, by omega, by omega, xP, A'.box, O.fB A'⟩
       · have n8 : ¬ lev = 8 := by omega
         rw [if_neg n8] at O
         simp only [cI]
         refine ⟨bp (by omega) (by omega), ?_⟩
         obtain ⟨g1, g2⟩ := hS f' (by omega) (j + 1) (lev + 1) aL (by omega) (by omega) (by omega)
         rw [show ((lev : Nat) : Int) + 1 = ((lev + 1 : Nat) : Int) by omega]
         refine g1 r dm _ S.A.box ⟨fun ns j2 e mK b gM hkb A => ?_, fun j e af A => O.bad j (by rw [e]; rfl) af (S.A.trans A)⟩
         rw [e] at g2 O
         have vS : j + 1 < j2 := g2.1
         refine So (S.fB A mK (by omega)) hk hkb fun a' af xP A' => ?_
         replace O : Out X r bQ R (if lev = 5 then .ok (node p.2 [] 0 0 (bM X.L X.E j) (left ++ ns)) j2 else ia X.L X.E f' lev (node p.2 [] 0 0 (bM X.L X.E j) (left ++ ns)) j2) := O
         refine ⟨fun e5 => ?_, fun n5 => ?_⟩
         · rw [if_pos (by omega)] at O
           exact al.mk (O.ok _ _ rfl mK a' af xP A')
         · rw [if_neg (by omega)] at O
           exact ⟨_, by omega, _, j2, f', rfl, rfl, rfl, mK, by omega, by omega, by omega, xP, A'.box, O.fB A'⟩
end
end Go.Rip
namespace Go.Rip
open Go.Proofs Go.RowKit
theorem dI.size {a : AV} {l : List Nd} (h : dI false [a] l) : ∃ x r, l = x :: r /\ x.size = (l.length : Int) := by
 generalize hb : false = b at h
 generalize hl : [a] = la at h
 cases h with
 | mk _ _ => exact ⟨_, _, rfl, by simp [node]⟩
 | nil => cases hl
 | cons _ _ => cases hb
theorem dI.count : ∀ {ks ks' : List AV} {l : List Nd}, dI true ks l -> dI true ks' l -> ks.length = ks'.length
 | [], ks', l, h, h' => by
   have : l = [] := by
    generalize hb : true = b at h
    generalize hl : ([] : List AV) = la at h
    cases h with
    | mk _ _ => cases hb
    | nil => rfl
    | cons _ _ => cases hl
   rw [h'.ne_nil rfl this]
 | a :: ks, ks', l, h, h' => by
   generalize hb : true = b at h
   generalize hl : a :: ks = la at h
   cases h with
   | mk _ _ => cases hb
   | nil => cases hl
   | @cons a1 ks1 l1 l2 h1 h2 =>
     cases hl
     obtain ⟨x, r, e1, e2⟩ := h1.size
     generalize Bw : l1 ++ l2 = ll at h'
     generalize eA : true = b' at h'
     cases h' with
     | mk _ _ => cases eA
     | nil => rw [e1] at Bw; cases Bw
     | @cons a3 ks3 l3 l4 h3 h4 =>
       obtain ⟨y, r', e3, e4⟩ := h3.size
       have zI : x = y := by rw [e1, e3] at Bw; simpa using congrArg List.head? Bw
       have hlen : l1.length = l3.length := by rw [zI] at e2; omega
       obtain ⟨_, h24⟩ := List.append_inj Bw hlen
       subst h24
       simp [dI.count h2 h4]
section
variable {X : Rx} {ay U : St} {r k i : Nat} {kind : Int} {text : aZ} {n m at_ : Int} {l : List Nd} {R : cS -> St -> Prop} {K' : AV -> St -> Prop} {Kp : AV -> St -> Prop} {w : aZ}
theorem Sq {q : Unit -> Nat -> PR (List Nd)} (hr : U.box r = some (rd X i)) (hi : i <= X.L.length) (O : Out X r U R ((bm X.L w i).bind q)) (h : ∀ af, i + 1 <= X.L.length -> eg r (rd X (i + 1)) U af -> Out X r af R (q () (i + 1)) -> K' (.aU []) af) : ad K 102 [.box r 0, .str w] U (ai K' (aa R)) :=
 CT hr hi w (fun e hl af A => h af hl A (by rw [e] at O; exact Out.fB O A)) fun e af A => O.bad _ (by rw [e]; rfl) _ A
theorem C9 (S : Sk X ay r k i kind text n m at_ l U) (hb : bl X.L i w = true) (h : ∀ af, Sk X ay r k (i + 1) kind text n m at_ l af -> K' (.aU []) af) : ad K 102 [.box r 0, .str w] U (ai K' Kp) :=
 CT S.A.box S.hi w (fun e hl af A => h af (S.fB A hl (by omega))) fun e af A => by simp [bm, hb] at e
structure Below (X : Rx) (fu : Nat) : Prop where
 term : ∀ f', f' <= fu -> ∀ j, j <= X.L.length -> 40 * (X.L.length - j) + 11 <= f' -> Ct X 109 j (fy X.L X.E f' j)
 first : ∀ f', f' <= fu -> ∀ j, j <= X.L.length -> 40 * (X.L.length - j) + 10 <= f' -> Ct X 169 j (bR X.L X.E f' j)
 oper : ∀ f', f' <= fu -> ∀ j lev, j <= X.L.length -> 2 <= lev -> lev <= 9 -> 40 * (X.L.length - j) + (11 - lev) <= f' -> Co X j lev (eo X.L X.E f' lev j)
 atom : ∀ f', f' <= fu -> ∀ j, j <= X.L.length -> 40 * (X.L.length - j) + 1 <= f' -> Ct X 252 j (iU X.L X.E f' j)
 arg : ∀ f', f' <= fu -> ∀ j, j <= X.L.length -> 40 * (X.L.length - j) + 12 <= f' -> Ct X 269 j (gI X.L X.E f' j)
theorem Below.Lp {fu i : Nat} (B : Below X fu) (hf : 40 * (X.L.length - i) + 10 <= fu + 40) : iq X fu i := fun j hj dt =>
 ⟨B.first fu (cG _) j hj (by omega), (qK fu).2.2.1 j hj (by omega)⟩
theorem Below.ops {fu : Nat} (B : Below X fu) : EN X fu := fun f' hf j lev hj h2 h9 he => ⟨B.oper f' hf j lev hj h2 h9 he, (qK f').2.2.2.1 j lev hj h9 he⟩
theorem Ut {fu : Nat} (B : Below X fu) (he : 40 * (X.L.length - i) + 12 <= fu) {q : List Nd -> Nat -> PR (List Nd)} (S : Sk X ay r k i kind text n m at_ l U) (O : Out X r ay R ((gI X.L X.E fu i).bind fun a j => (gO X.L X.E fu a j).bind q))
 (h : ∀ ns j af, j <= X.L.length -> i < j -> Sk X ay r k j kind text n m at_ (l ++ ns) af -> Out X r ay R (q ns j) -> K' (.aU []) af) : ad K 106 [.box r 0, .box k 0, .func (.func 269) [.box r 0] []] U (ai K' (aa R)) := by
 refine Ea ?_
 unfold GG
 have kI : hU K.P 269 = true := by kernel_rfl
 rw [EK kI (c := [])]
 simp only [BU]
 have C : ∀ f', f' <= fu -> ∀ j, j <= X.L.length -> 40 * (X.L.length - j) + 12 <= f' -> Ct X 269 j (gI X.L X.E f' j) /\ Gd X.L.length (j + 1) j (gI X.L X.E f' j) := fun f' h1 j h2 h3 => ⟨B.arg f' h1 j h2 h3, (qK f').2.2.2.2.2.2.2 j h2 h3⟩
 obtain ⟨c1, c2⟩ := C fu (cG _) i S.hi he
 refine gR S c1 c2 O fun ns j bP hj dt S1 O1 => ?_
 refine ⟨fun mm v0 v1 v2 af => ∃ acc j f', mm = X.L.length - j /\ v0 = .box r 0 /\ v1 = .box k 0 /\ v2 = .func (.func 269) [.box r 0] [] /\ j <= X.L.length /\ i < j /\ 40 * (X.L.length - j) + 1 <= f' /\ f' <= fu /\ Sk X ay r k j kind text n m at_ (l ++ acc) af /\ Out X r ay R ((gO X.L X.E f' acc j).bind q),
  ⟨_, ns, j, fu, rfl, rfl, rfl, rfl, hj, dt, by omega, cG _, S1, O1⟩, ?_⟩
 rintro mm v0 v1 v2 bI ⟨acc, j2, f', rfl, rfl, rfl, rfl, mK, vS, kJ, Ii, S2, O2⟩
 cases f' with
 | zero => omega
 | succ f' =>
   rw [gO] at O2
   refine qq S2 (fun hw bQ S3 => ?_) (fun hw bQ S3 => ?_)
   · simp only [aK]
     rw [if_pos hw] at O2
     have aL := cu hw
     rw [EK kI (c := [])]
     have e2 : ((gI X.L X.E f' (j2 + 1)).bind fun b j => gO X.L X.E f' (acc ++ b) j).bind q = (gI X.L X.E f' (j2 + 1)).bind fun b j => (gO X.L X.E f' (acc ++ b) j).bind q := by
      cases gI X.L X.E f' (j2 + 1) <;> rfl
     rw [e2] at O2
     obtain ⟨c1, c2⟩ := C f' (by omega) _ aL (by omega)
     refine gR S3 c1 c2 O2 fun qg j3 cz Dx abR S4 O4 => ?_
     exact ⟨_, by omega, acc ++ qg, j3, f', rfl, rfl, rfl, rfl, Dx, by omega, by omega, by omega, by rw [<- qT]; exact S4, O4⟩
   · simp only [aE]
     rw [if_neg (by rw [hw]; simp)] at O2
     exact al.mk (h acc j2 bQ mK vS S3 O2)
theorem Xh {fu : Nat} (B : Below X fu) (hi : i <= X.L.length) (he : 40 * (X.L.length - i) + 12 <= fu + 1) : Ct X 269 i (gI X.L X.E (fu + 1) i) := by
 intro r U R hr O
 refine PY ?_
 unfold PX
 rw [gI] at O
 have hs := X.small
 have hF := B.Lp (i := i) (by omega)
 refine GK hr hi fun b bP hb A1 => ?_
 replace O := O.fB A1
 cases b with
 | true =>
   simp only [aK]
   rw [if_pos hb] at O
   refine fP A1.box hi fun k bI S => ?_
   refine C9 S hb fun bQ S => dh S O fun bQ S O => ?_
   refine CR (by kernel_rfl) (fun i hi => HU hi) (fun i hi => sJ hi) (by omega) (by omega) S O fun ns j cz hj dt S O => ?_
   refine dh S O fun dm S O => ?_
   exact lu hF (by omega) S O fun ns j dm hj dt S O => dW S O
 | false =>
   simp only [aE]
   rw [if_neg (by rw [hb]; simp)] at O
   refine GK A1.box hi fun b2 bI gA A2 => ?_
   replace O := O.fB A2
   cases b2 with
   | true =>
     simp only [aK]
     rw [if_pos gA] at O
     refine fP A2.box hi fun k bI S => ?_
     refine C9 S gA fun bQ S => dh S O fun bQ S O => ?_
     refine lu hF (by omega) S O fun ns j dm hj dt S O => dh S O fun _ S O => dh S O fun _ S O => ?_
     refine gR S (HU S.hi) (sJ S.hi) O fun ns j dm hj dt S O => dh S O fun _ S O => ?_
     exact lu hF (by omega) S O fun ns j dm hj dt S O => dh S O fun _ S O => dW S O
   | false =>
     simp only [aE]
     rw [if_neg (by rw [gA]; simp)] at O
     exact zi (B.term fu (cG _) i hi (by omega)) A2.box O
end
end Go.Rip
namespace Go.Rip
open Go.Proofs Go.RowKit
theorem pJ {U : St} {b : Nat} {ks vs : List AV} : (U.set b (.mp ks vs)).mp b = some (ks, vs) := by simp [St.mp, gV]
theorem MF {U : St} {b : Nat} {ks vs : List AV} : (U.new b (.mp ks vs)).mp b = some (ks, vs) := by simp [St.mp, pe]
theorem Kk {U af : St} {b : Nat} (h : af.live b = U.live b) : af.mp b = U.mp b := by simp [St.mp, h]
theorem dr.mp {U af : St} {b : Nat} {x : List AV × List AV} (h : dr U af) (k : U.mp b = some x) : af.mp b = some x := by
 cases e : U.live b with
 | none => simp [St.mp, e] at k
 | some y => rw [Kk ((h b y e).trans e.symm)]; exact k
theorem vG {C : cV} {U : St} {K' : AV -> St -> Prop} {Kp : AV -> St -> Prop} {m : Nat} {ks vs ks' vs' : List AV} {s : aZ} {v : AV} {t : TypeId} (h : U.mp m = some (ks, vs)) (hf : lH .s (.str s) ks 0 = some none) (hi : gw (.str s) v ks vs = (ks', vs')) :
 (jO (some (.s, t)) (.mp m) (.str s) v U).wp C U K' Kp = K' (.aU []) (U.set m (.mp ks' vs')) := by
 simp only [jO, h, hf, p6, hi]; rfl
def rv : List (aZ × Int) := [(o8, 32), (gG, 28), (kZ, 30), (mS, 31), (jJ, 29), (gq, 27)]
theorem Uw (s : aZ) {U : St} {m : Nat} (h : U.mp m = some (rv.map fun p => .str p.1, rv.map fun p => .int .u8 p.2)) : iB (some (.s, 5)) (some (AV.int .u8 0)) (.mp m) (.str s) true U = .val (.aU [.int .u8 (match rv.find? (fun p => p.1 = s) with | some p => p.2 | none => 0), .bool (rv.find? (fun p => p.1 = s)).isSome]) := by
 have := tQ s (.int .u8 0) (rv.map fun p => (p.1, AV.int .u8 p.2))
 rw [List.map_map, List.map_map, List.find?_map] at this
 simp only [iB, mq, p6, h]
 rw [show (rv.map fun p => AV.str p.1) = List.map ((fun p : aZ × AV => AV.str p.1) ∘ fun p => (p.1, AV.int .u8 p.2)) rv from rfl, show (rv.map fun p => AV.int .u8 p.2) = List.map ((fun p : aZ × AV => p.2) ∘ fun p => (p.1, AV.int .u8 p.2)) rv from rfl, this]
 have e : ((fun p : aZ × AV => decide (p.1 = s)) ∘ fun p : aZ × Int => (p.1, AV.int .u8 p.2)) = fun p => decide (p.1 = s) := rfl
 rw [e]
 cases rv.find? fun p => decide (p.1 = s) <;> rfl
section
variable {X : Rx} {ay U : St} {r k i : Nat} {kind : Int} {text : aZ} {n m at_ : Int} {l : List Nd} {R : cS -> St -> Prop} {K' : AV -> St -> Prop} {Kp : AV -> St -> Prop} {w : aZ}
theorem Uy {fu : Nat} (B : Below X fu) (hi : i <= X.L.length) (he : 40 * (X.L.length - i) + 1 <= fu + 1) : Ct X 252 i (iU X.L X.E (fu + 1) i) := by
 intro r U R hr O
 refine PM ?_
 unfold PL
 have hs := X.small
 rw [oc]
 intro mm hmm
 have e1 : dr U (U.new mm (.mp [] [])) := (dr.refl U).new hmm
 have hn := hmm.1
 rw [show NV.at mm .mp = AV.mp mm from rfl]
 generalize Q8 : U.new mm (.mp [] []) = bP at e1 ⊢
 have m1 : bP.mp mm = some ([], []) := by rw [<- Q8]; exact MF
 rw [vG (ks' := [.str gq]) (vs' := [.int .u8 27]) m1 rfl rfl]
 rw [vG (ks' := [.str gG, .str gq]) (vs' := [.int .u8 28, .int .u8 27]) pJ rfl rfl]
 rw [vG (ks' := [.str gG, .str jJ, .str gq]) (vs' := [.int .u8 28, .int .u8 29, .int .u8 27]) pJ rfl rfl]
 rw [vG (ks' := [.str gG, .str kZ, .str jJ, .str gq]) (vs' := [.int .u8 28, .int .u8 30, .int .u8 29, .int .u8 27]) pJ rfl rfl]
 rw [vG (ks' := [.str gG, .str kZ, .str mS, .str jJ, .str gq]) (vs' := [.int .u8 28, .int .u8 30, .int .u8 31, .int .u8 29, .int .u8 27]) pJ rfl rfl]
 rw [vG (ks' := [.str o8, .str gG, .str kZ, .str mS, .str jJ, .str gq]) (vs' := [.int .u8 32, .int .u8 28, .int .u8 30, .int .u8 31, .int .u8 29, .int .u8 27]) pJ rfl rfl]
 have e2 := (((((e1.set (x := .mp [.str gq] [.int .u8 27]) hn).set (x := .mp [.str gG, .str gq] [.int .u8 28, .int .u8 27]) hn).set (x := .mp [.str gG, .str jJ, .str gq] [.int .u8 28, .int .u8 29, .int .u8 27]) hn).set (x := .mp [.str gG, .str kZ, .str jJ, .str gq] [.int .u8 28, .int .u8 30, .int .u8 29, .int .u8 27]) hn).set (x := .mp [.str gG, .str kZ, .str mS, .str jJ, .str gq] [.int .u8 28, .int .u8 30, .int .u8 31, .int .u8 29, .int .u8 27]) hn).set (x := .mp [.str o8, .str gG, .str kZ, .str mS, .str jJ, .str gq] [.int .u8 32, .int .u8 28, .int .u8 30, .int .u8 31, .int .u8 29, .int .u8 27]) hn
 generalize Q9 : ((((((bP.set mm (.mp [.str gq] [.int .u8 27])).set mm _).set mm _).set mm _).set mm _).set mm _) = bI at e2 ⊢
 have m2 : bI.mp mm = some (rv.map fun p => .str p.1, rv.map fun p => .int .u8 p.2) := by rw [<- Q9]; exact pJ
 have nJ := e2.bU hr
 refine Ja nJ hi fun bQ e3 => ?_
 simp only [bg, Uw _ (e3.mp m2), aj, bC, List.drop, bq]
 have A3 : eg r (rd X i) U bQ := .pK hr (e2.trans e3)
 replace O := O.fB A3
 have hw : ∀ w : aZ, w ≠ [] -> bl X.L i w = decide (w = qW X.L[i]?) := fun w h => by rw [DO h]; simp [eq_comm]
 rw [iU, hw gq (by decide), hw gG (by decide), hw jJ (by decide), hw kZ (by decide), hw mS (by decide), hw o8 (by decide)] at O
 simp only [ej] at O
 cases Ib : rv.find? fun p => p.1 = qW X.L[i]? with
 | some p =>
   simp only [Option.isSome_some, aK]
   have hp : p ∈ rv := List.mem_of_find?_eq_some Ib
   have mL : p.1 = qW X.L[i]? := by simpa using List.find?_some Ib
   have cH : p.1 ≠ [] := by
    have : ∀ p ∈ rv, p.1 ≠ [] := by decide
    exact this p hp
   have aL : i < X.L.length := cu (w := p.1) (by rw [hw _ cH, mL]; simp)
   refine fP A3.box hi fun k cz S => ?_
   simp only [bu, aj, aR, bW]
   refine Qa S aL fun dm S => ?_
   intro j hj
   simp only [aV, aj, aS, aM, iz, bG]
   rw [<- mL] at O
   simp only [rv, fC, List.not_mem_nil, or_false] at hp
   have t1 : (o8 = gq) = False := by simp; decide
   rcases hp with rfl | rfl | rfl | rfl | rfl | rfl
   · simp (decide := true) only [if_false, if_true] at O
     simp (decide := true) [aK]
     exact mf S O fun x _ S O => mg S fun _ S => hj _ _ (dW S O)
   · simp (decide := true) only [if_false, if_true] at O
     simp (decide := true) [aE]
     exact hj _ _ (dW S O)
   · simp (decide := true) only [if_false, if_true] at O
     simp (decide := true) [aE]
     exact hj _ _ (dW S O)
   · simp (decide := true) only [if_false, if_true] at O
     simp (decide := true) [aK]
     exact mf S O fun x _ S O => mg S fun _ S => hj _ _ (dW S O)
   · simp (decide := true) only [if_false, if_true] at O
     simp (decide := true) [aE]
     exact hj _ _ (dW S O)
   · simp (decide := true) only [if_false, if_true] at O
     simp (decide := true) [aE]
     exact hj _ _ (dW S O)
 | none =>
   simp only [Option.isSome_none, aE]
   have fM : ∀ w ∈ rv.map (·.1), ¬ w = qW X.L[i]? := fun w hw e => by
    rw [List.find?_eq_none] at Ib
    obtain ⟨p, hp, rfl⟩ := List.mem_map.1 hw
    simpa [e] using Ib p hp
   rw [if_neg (fM _ (by decide)), if_neg (fM _ (by decide)), if_neg (fM _ (by decide)), if_neg (fM _ (by decide)), if_neg (fM _ (by decide)), if_neg (fM _ (by decide))] at O
   refine Gb A3.box hi fR (fun hb cz A4 => ?_) (fun hb cz e4 => ?_)
   · simp only [bg, aK]
     rw [if_pos hb] at O
     have aL := cu hb
     replace O := O.fB A4
     have g2 := (qK (L := X.L) (E := X.E) fu).1 (i + 1) aL (by omega)
     refine B.term fu (cG _) (i + 1) aL (by omega) r cz _ A4.box ⟨fun ns j e hj a af hk A => ?_, fun j e af A => O.bad j (by rw [e]; rfl) af A⟩
     rw [e] at O
     refine Sq A.box hj (Out.fB O A) fun dm hj5 A5 O => ?_
     exact al.mk (O.ok _ _ rfl hj5 a dm hk ⟨A5.box, gj.refl _ _⟩)
   · simp only [bg, aE]
     rw [if_neg (by rw [hb]; simp)] at O
     have A4 : eg r (rd X i) bQ cz := .pK A3.box e4
     replace O := O.fB A4
     refine pt A4.box hi 0 (by omega) fun dm e5 => ?_
     rw [Nat.add_zero]
     have A5 : eg r (rd X i) cz dm := .pK A4.box e5
     replace O := O.fB A5
     obtain ⟨kd, s, a, e, hm⟩ := tY X.L[i]?
     rw [e]
     simp only [bg, Bc, List.drop, bq, aV, aj, aT]
     have fY : eP X.L i 2 = true ↔ kd = 2 := by
      refine Iff.trans ?_ (hm 2 (by omega)).symm
      unfold eP
      cases ht : X.L[i]? with
      | none => simp
      | some t =>
        rw [ht] at e; simp only [pN, jo, List.cons.injEq, AV.str.injEq, true_and] at e
        simp [e.2.1]
     refine ⟨fun h2 => ?_, fun h2 => ?_⟩
     · rw [if_pos (fY.2 h2)] at O
       refine fP A5.box hi fun k gM S => ?_
       simp only [bu, aj, aR, bW]
       exact nX S O fun x _ S O => yG S fun _ S => dW S O
     · rw [if_neg (fun h => h2 (fY.1 h))] at O
       refine fP A5.box hi fun k gM S => ?_
       simp only [bu, aj, aR, bW]
       refine mf S O fun x _ S O => mg S fun _ S => ?_
       intro j hj
       refine qq S (fun hw mT S => ?_) fun hw mT S => ?_
       · simp only [aK]
         rw [if_pos hw] at O
         have hh := S.hi
         refine zh S fun _ S => Ut B (by omega) S O fun ns j2 ue mK vS S O => ?_
         exact dh S O fun _ S O => hj _ _ (dW S O)
       · simp only [aE]
         rw [if_neg (by rw [hw]; simp)] at O
         exact hj _ _ (dW S O)
end
end Go.Rip
namespace Go.Rip
open Go.Proofs Go.RowKit
section
variable {X : Rx} {ay U : St} {r k i : Nat} {kind : Int} {text : aZ} {n m at_ : Int} {l : List Nd} {R : cS -> St -> Prop} {K' : AV -> St -> Prop} {Kp : AV -> St -> Prop} {w : aZ}
theorem Vn {a : AV} {ns : List Nd} (S : Sk X ay r k i kind text n m at_ [] U) (hi : 1 <= i) (hk : dI false [a] ns) (h : ∀ af, Sk X ay r k i kind text n m at_ ns af -> K' (.box k 0) af) :
 (aA (some (87, 1)) (some [AV.bj]) 1 false [(0, a)]).wp K U (fun v U => ad K 103 [.box k 0, v] U (ai K' (aa R))) (aa R) :=
 GJ S (fun ks h1 h2 h3 => ⟨ks, h1, h2, by rw [h2.ne_nil rfl rfl]; simpa using hi⟩) hk fun af S => h af (by simpa using S)
theorem QR {U : St} {v : AV} {e sz n : Nat} {l : List AV} (h : Grow U v e sz n l) : bD (some false) v = .val (.int .i64 n) := by
 rcases h with ⟨rfl, rfl, rfl⟩ | ⟨τ, rfl, _⟩ <;> rfl
theorem Vp {fu : Nat} (B : Below X fu) (hi : i <= X.L.length) (he : 40 * (X.L.length - i) + 11 <= fu + 1) : Ct X 109 i (fy X.L X.E (fu + 1) i) := by
 intro r U R hr O
 refine Nn ?_
 unfold Nl
 have hs := X.small
 rw [fy] at O
 have g := (qK (L := X.L) (E := X.E) fu).2.2.1 i hi (by omega)
 refine B.first fu (cG _) i hi (by omega) r U _ hr ⟨fun ns j e hj a bP hk A1 => ?_, fun j e af A => O.bad j (by rw [e]; rfl) af A⟩
 rw [e] at O g
 have dt : i < j := g.1
 have O1 : Out X r bP R (jm X.L X.E fu (bM X.L X.E j) ns 1 j) := Out.fB O A1
 clear O e g
 refine fP A1.box hj fun k bI S => ?_
 refine Vn S (by omega) hk fun bQ S => ?_
 intro jj sU
 have fin : ∀ (acc : List Nd) (many q : Nat) (af : St), Sk X bP r k q 9 [] 0 0 (bM X.L X.E j) acc af -> (∃ ks, dI true ks acc /\ ks.length = many) -> (many = 1 -> acc = ns) -> Out X r bP R (.ok (if many = 1 then acc else node 9 [] 0 0 (bM X.L X.E j) acc) q) -> jj a (.box k 0) af := by
  intro acc many q af S ⟨ks0, LL, rY⟩ h1 O
  refine sU _ _ _ ?_
  have Tm := S.hi
  have hA' := S.A
  obtain ⟨ks, M, Dy, hle⟩ := S.M
  have hl : ks.length = many := (Dy.count LL).trans rY
  obtain ⟨kv, b1, b2, b3, b4⟩ := M.box
  simp only [bu, aj, aR, bW, eG b1, kT, List.drop, bq, QR b2, aV, aT, hl]
  refine ⟨fun h => ?_, fun h => ?_⟩
  · have h : many = 1 := by omega
    rw [if_pos h] at O
    have := h1 h
    subst this
    exact al.mk (O.ok _ _ rfl Tm a af hk hA')
  · rw [if_neg (by omega)] at O
    exact dW S O
 refine ⟨fun mm v0 v3 v4 af => ∃ acc many q f', mm = X.L.length - q /\ v0 = .box r 0 /\ v3 = a /\ v4 = .box k 0 /\ i < q /\ 40 * (X.L.length - q) + 1 <= f' /\ f' <= fu /\ Sk X bP r k q 9 [] 0 0 (bM X.L X.E j) acc af /\ (∃ ks, dI true ks acc /\ ks.length = many) /\ (many = 1 -> acc = ns) /\ 1 <= many /\ Out X r bP R (jm X.L X.E f' (bM X.L X.E j) acc many q),
  ⟨_, ns, 1, j, fu, rfl, rfl, rfl, rfl, dt, by omega, cG _, S, ⟨[a], hk.one, rfl⟩, fun _ => rfl, cG _, O1⟩, ?_⟩
 clear O1 S dt
 rintro mm v0 v3 v4 cz ⟨acc, many, q, f', rfl, rfl, rfl, rfl, hiq, Bl, kJ, S, lS, Dz, Tc, O⟩
 cases f' with
 | zero => omega
 | succ f' =>
   rw [jm] at O
   have hq := S.hi
   refine Qb S fun b dm hb S => ?_
   cases b with
   | false =>
     simp only [aE]
     rw [if_neg (by rw [hb]; simp)] at O
     exact fin acc many q dm S lS Dz O
   | true =>
     simp only [aK]
     have aL := cu hb
     refine pt S.A.box hq 1 (by omega) fun gM e6 => ?_
     obtain ⟨kd, s, at', e, hm⟩ := tY X.L[q + 1]?
     have CK : kd = 0 ↔ X.L.length <= q + 1 := by
      cases ht : X.L[q + 1]? with
      | none =>
        rw [ht] at e; simp only [pN, List.cons.injEq, AV.int.injEq, true_and] at e
        rw [List.getElem?_eq_none_iff] at ht
        exact ⟨fun _ => ht, fun _ => e.1.symm⟩
      | some t =>
        rw [ht] at e; simp only [pN, jo, List.cons.injEq, AV.int.injEq, true_and] at e
        have := (dP.1 ht).1
        have hk := (X.ok t (gK ht)).cases
        constructor
        · intro h; omega
        · intro h; omega
     have Ig := zt X.L[q + 1]?
     rw [IU] at Ig
     rw [e] at Ig ⊢
     simp only [bg, oc]
     intro b2 gA
     have e7 := e6.new (x := .box [AV.int .u8 0, AV.str [], AV.int .i64 0]) gA
     rw [show NV.at b2 .box = AV.box b2 0 from rfl, cT aW]
     refine ⟨⟨rfl, rfl, by simp⟩, ?_⟩
     have e8 := e7.set (x := .box (az [AV.int .u8 0, AV.str [], AV.int .i64 0] 0 (aC (.agg [.int .u8 kd, .str s, .int .i64 at'])))) (e6.fresh gA.1)
     generalize rZ : (gM.new b2 (.box [AV.int .u8 0, AV.str [], AV.int .i64 0])).set b2 (.box (az [AV.int .u8 0, AV.str [], AV.int .i64 0] 0 (aC (.agg [.int .u8 kd, .str s, .int .i64 at'])))) = ue at e8 ⊢
     have Ie : ue.box b2 = some [.int .u8 kd, .str s, .int .i64 at'] := by rw [<- rZ, bf]; rfl
     replace S := S.fB (.pK S.A.box e8) hq (cG _)
     simp only [aR, aj, eG Ie, List.drop, bq, bW, aV, aS, aM]
     have stop : ¬ (q + 1 < X.L.length /\ oF X.L (q + 1) = false) -> jj v3 (.box k 0) ue := fun hn => by
      rw [if_neg (fun h => hn h.2)] at O
      exact fin acc many q ue S lS Dz O
     by_cases h0 : kd = 0
     · simp only [h0, cj, show (true == false) = false from rfl, bz, aF, if_true, aj, aK]
       exact stop (fun h => by have := CK.1 h0; omega)
     · simp only [h0, cM, dN, bG, BV Ie, yq, eN, aF, bH, if_false, aj]
       refine ⟨by simp, _, Ig, ?_⟩
       cases hit : oF X.L (q + 1) with
       | true => simp only [aK]; exact stop (fun h => by rw [hit] at h; cases h.2)
       | false =>
         simp only [aE]
         have mr : q + 1 < X.L.length := by
          rcases eZ (q + 1) X.L.length with h | h
          · exact h
          · exact absurd (CK.2 h) h0
         rw [if_pos ⟨hb, mr, hit⟩] at O
         refine C9 S hb fun tu S => ?_
         have hF : iq X f' q := fun j hj hqj => ⟨B.first f' (by omega) j hj (by omega), (qK f').2.2.1 j hj (by omega)⟩
         have XZ : ∀ qf a2, dI false [a2] qf -> ∃ ks, dI true ks (acc ++ qf) /\ ks.length = many + 1 := fun qf a2 h => by
          obtain ⟨ks, h1, h2⟩ := lS
          exact ⟨ks ++ [a2], h1.snoc h, by simp [h2]⟩
         obtain ⟨g1, g2⟩ := hF (q + 1) aL (by omega)
         refine g1 r tu _ S.A.box ⟨fun qf j2 e mK a2 qx fY A2 => ?_, fun j e af A => O.bad j (by rw [e]; rfl) af (S.A.trans A)⟩
         rw [e] at g2 O
         have hqj : q + 1 < j2 := g2.1
         obtain ⟨ks, M1, M2, M3⟩ := S.M
         have S2 := S.fB A2 mK (by omega)
         refine GJ S2 (fun _ _ _ _ => ⟨ks, M1.fB A2 S.A.box, M2, by omega⟩) fY fun ZN S3 => ?_
         refine ⟨_, ?_, acc ++ qf, many + 1, j2, f', rfl, rfl, rfl, rfl, by omega, by omega, by omega, S3, XZ qf a2 fY, fun h => by omega, by omega, O⟩
         omega
end
theorem below : ∀ (X : Rx) (fu : Nat), Below X fu := fun X fu => by
 induction fu with
 | zero => constructor <;> intros <;> omega
 | succ fu B =>
   have st : ∀ {f' : Nat}, f' <= fu + 1 -> f' <= fu \/ f' = fu + 1 := fun h => by omega
   refine ⟨fun f' hf j hj he => ?_, fun f' hf j hj he => ?_, fun f' hf j lev hj h2 h9 he => ?_, fun f' hf j hj he => ?_, fun f' hf j hj he => ?_⟩
   · rcases st hf with h | rfl
     · exact B.term f' h j hj he
     · exact Vp B hj he
   · rcases st hf with h | rfl
     · exact B.first f' h j hj he
     · exact QH hj (B.Lp (by omega)) (B.oper fu (cG _) j 2 hj (by omega) (by omega) (by omega))
   · rcases st hf with h | rfl
     · exact B.oper f' h j lev hj h2 h9 he
     · exact Vb hj h2 h9 he (fun h => B.atom fu (cG _) j hj (by omega)) B.ops
   · rcases st hf with h | rfl
     · exact B.atom f' h j hj he
     · exact Uy B hj he
   · rcases st hf with h | rfl
     · exact B.arg f' h j hj he
     · exact Xh B hj he
theorem Rf (X : Rx) {i : Nat} (hi : i <= X.L.length) : Ct X 55 i (gB X.L X.E (fuel X.L) i) := by
 have hf : 40 * (X.L.length + 2) = fuel X.L := rfl
 exact UR hi (by omega) fun j hj dt => ⟨(below X _).term _ (cG _) j hj (by omega), (qK _).1 j hj (by omega)⟩
end Go.Rip
