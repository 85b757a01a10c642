/- Lemmas for the proof: no conditions. -/
import Derived.Test.YtnfpmiiopiinbaaGreatDoorRipZz
import Derived.Test.YtnfpmiiopiinbaaGreatDoorRipN
set_option linter.unusedVariables false
set_option linter.unusedSimpArgs false
set_option linter.loopingSimpArgs false
namespace Go.Rip
open Go.Proofs Go.RowKit
section
variable {X : Rx} {i : Nat}
theorem Jx {U : St} {r : Nat} {w : aW} {K' : AV -> St -> Prop} {Kp : AV -> St -> Prop} (hr : U.box r = some (rd X i)) (hi : i <= X.L.length) (h : ∀ b ad, bW X.L i w = b -> ef r (rd X i) U ad -> K' (.bool b) ad) :
 (aD (some (9, 1)) (some [AV.str []]) 1 false [(0, .str w)]).wp K U (fun v U => ae K 105 [.box r 0, v] U (al K' Kp)) Kp := by
 rw [fG]
 refine ⟨by omega, ?_⟩
 rw [ee (o := 0) (s := 1) rfl]
 refine ⟨⟨rfl, rfl, by simp [bp]⟩, ?_⟩
 rw [gw]
 refine ⟨rfl, ?_⟩
 refine EM (l := [w]) hr hi (by simp) fun bM e1 => ?_
 exact h _ _ (by rw [uB]) (.nQ hr e1)
theorem yx {U : St} {r : Nat} {R : cm -> St -> Prop} {f : FuncId} {p : PR (List Nd)} (C : Ct X f i p) (hr : U.box r = some (rd X i)) (O : Out X r U R p) : ae K f [.box r 0] U (al (fun v U => aj R v U) (aa R)) :=
 C r U _ hr ⟨fun ns j e hj a ad hk A => aj.mk (O.ok ns j e hj a ad hk A), O.bad⟩
theorem C6 (hi : i <= X.L.length) : Ct X 278 i (wi X.L X.E i) := by
 intro r U R hr O
 refine Jr ?_
 unfold Jq
 refine fo hr hi fun k bM S => ?_
 simp only [cH, ag, aU, ck]
 exact lX S O fun x cC S O => lY S fun dw S => dV S O
end
end Go.Rip
namespace Go.Rip
open Go.Proofs Go.RowKit
theorem EL {c : ik} (o : Option Tk) (l : List aW) (hn : l.length <= 100000) (hc : closed (.vec l.length c (l.map .str)) = true) : Pure K 121 [.agg (mL o), .vec l.length c (l.map .str)] (.bool (p5 o l)) := by
 refine Pure.of ?_ rfl (fun U => rfl) fun R hR => vD o l hn fun ad _ => hR ad
 have : closed (.agg (mL o)) = true := by cases o <;> rfl
 simp only [bH, this, hc, Bool.and_self]
section
variable {X : Rx} {az U : St} {r k i : Nat} {kind : Int} {text : aW} {n m at_ : Int} {l : List Nd} {R : cm -> St -> Prop} {K' : AV -> St -> Prop} {Kp : AV -> St -> Prop} {w : aW} {f : FuncId}
def eY (X : Rx) (f i : Nat) : Prop := ∀ j, j <= X.L.length -> i < j -> Ct X 169 j (bU X.L X.E f j) /\ Gd X.L.length (j + 1) j (bU X.L X.E f j)
def xK (X : Rx) (f : Nat) (fin : List Nd -> Nat -> PR (List Nd)) : List aW -> List Nd -> Nat -> PR (List Nd)
 | [], acc, i => fin acc i
 | w :: ws, acc, i => (bY X.L w i).bind fun _ j => (bU X.L X.E f j).bind fun a j => xK X f fin ws (acc ++ a) j
theorem B1 {fu i0 : Nat} (hF : eY X fu i0) {fin : List Nd -> Nat -> PR (List Nd)} (ws : List aW) (hw : ws.length <= 10) (AO : i0 <= i) (S : Sk X az r k i kind text n m at_ l U) {ac : List Nd} (XD : ac = l) (O : Out X r az R (xK X fu fin ws ac i))
 (h : ∀ acc j ad, Sk X az r k j kind text n m at_ acc ad -> Out X r az R (fin acc j) -> aj R (.box k 0) ad) :
 dQ 5 [.box r 0, .box k 0, .vec ws.length .full (ws.map .str), .int .i64 ws.length, .int .i64 0] U fun lp v0 v3 o6 mH v10 U =>
 (aw .lss (BT.mk false false false none false) false v10 mH).wp K U (fun v11 U =>
 ay v11 (
  (aJ (some (9, 1)) none o6 v10).wp K U (fun v12 U =>
  (ao (some (false, 1)) v12 U).wp K U (fun cB U =>
  ae K 102 [v0, cB] U (al (fun dA U =>
  ae K 169 [v0] U (al (fun dE U =>
  (aD (some (87, 1)) (some [AV.aR]) 1 false [(0, dE)]).wp K U (fun v20 U =>
  ae K 103 [v3, v20] U (al (fun v21 U =>
  (aw .add (BT.mk false false false none false) true v10 (AV.int .i64 1)).wp K U (fun dW U =>
  lp v0 v3 o6 mH dW U) (aa R)) (aa R))) (aa R)) (aa R))) (aa R))) (aa R)) (aa R)) (
  aj R v3 U)) (aa R) := by
 subst XD
 refine ⟨fun mm v0 v3 v8 v9 v10 ad => ∃ t acc j, t <= ws.length /\ mm = ws.length - t /\ v0 = .box r 0 /\ v3 = .box k 0 /\ v8 = .vec ws.length .full (ws.map .str) /\ v9 = .int .i64 ws.length /\ v10 = .int .i64 (t : Nat) /\ i0 <= j /\ Sk X az r k j kind text n m at_ acc ad /\ Out X r az R (xK X fu fin (ws.drop t) acc j),
  ⟨_, 0, _, _, by omega, rfl, rfl, rfl, rfl, rfl, rfl, AO, S, O⟩, ?_⟩
 rintro mm v0 v3 v8 v9 v10 bM ⟨t, acc, j, ht, rfl, rfl, rfl, rfl, rfl, rfl, eJ, S, O⟩
 simp only [bO, ag, br]
 refine ⟨fun aH => ?_, fun iX => ?_⟩
 · have aH : t < ws.length := by omega
   have hd : (ws.map AV.str).drop (t * 1) = .str ws[t] :: (ws.map AV.str).drop (t + 1) := by
    rw [Nat.mul_one, fT (by simpa using aH)]; simp
   have sB : ws.drop t = ws[t] :: ws.drop (t + 1) := fT aH
   rw [sB] at O
   simp only [L7, eF, hd, o8, bD]
   refine ⟨by omega, ?_⟩
   unfold xK at O
   refine dB S O fun bN S O => ?_
   obtain ⟨g1, g2⟩ := hF _ S.hi (by omega)
   refine jr S g1 g2 O fun ns j2 cC oG x9 S O => ?_
   simp only [cW]
   refine ⟨bh (by omega) (by omega), ws.length - (t + 1), by omega, t + 1, _, _, aH, rfl, rfl, rfl, rfl, rfl, rfl, by omega, S, O⟩
 · have : t = ws.length := by omega
   subst this
   rw [List.drop_length] at O
   exact h _ _ _ S O
theorem F8 {fu : Nat} (hi : i <= X.L.length) (hF : eY X fu i) : Ct X 158 i ((bY X.L yG i).bind fun _ j => (bU X.L X.E fu j).bind fun c j => (bY X.L ue j).bind fun _ j => (bU X.L X.E fu j).bind fun a j => (bY X.L kf j).bind fun _ j => (bU X.L X.E fu j).bind fun b j => .ok (node 10 [] 0 0 (dR X.L X.E i) (c ++ a ++ b)) j) := by
 intro r U R hr O
 refine Iq ?_
 unfold Ip
 refine fo hr hi fun k bM S => ?_
 rw [fG]
 refine ⟨by omega, ?_⟩
 rw [ee (o := 0) (s := 1) rfl]
 refine ⟨⟨rfl, rfl, by simp [bp]⟩, ?_⟩
 rw [ee (o := 1) (s := 1) rfl]
 refine ⟨⟨rfl, rfl, by simp [bp, aB]⟩, ?_⟩
 rw [ee (o := 2) (s := 1) rfl]
 refine ⟨⟨rfl, rfl, by simp [bp, aB]⟩, ?_⟩
 rw [gw]
 refine ⟨rfl, ?_⟩
 simp only [qI, ag]
 exact B1 (fin := fun acc j => .ok (node 10 [] 0 0 (dR X.L X.E i) acc) j) hF [yG, ue, kf] (by simp) (cA _) S rfl O fun acc j ad S O => dV S O
theorem N4 {fu : Nat} (hi : i <= X.L.length) (hF : eY X fu i) : Ct X 159 i ((bY X.L ov i).bind fun _ j => (bU X.L X.E fu j).bind fun a j => (bY X.L Cg j).bind fun _ j => (bU X.L X.E fu j).bind fun b j => .ok (node 11 [] 0 0 (dR X.L X.E i) (a ++ b)) j) := by
 intro r U R hr O
 refine Is ?_
 unfold Ir
 refine fo hr hi fun k bM S => ?_
 rw [fG]
 refine ⟨by omega, ?_⟩
 rw [ee (o := 0) (s := 1) rfl]
 refine ⟨⟨rfl, rfl, by simp [bp]⟩, ?_⟩
 rw [ee (o := 1) (s := 1) rfl]
 refine ⟨⟨rfl, rfl, by simp [bp, aB]⟩, ?_⟩
 rw [gw]
 refine ⟨rfl, ?_⟩
 simp only [qI, ag]
 exact B1 (fin := fun acc j => .ok (node 11 [] 0 0 (dR X.L X.E i) acc) j) hF [ov, Cg] (by simp) (cA _) S rfl O fun acc j ad S O => dV S O
theorem ig {fu i0 : Nat} {q : List Nd -> Nat -> PR (List Nd)} (hF : eY X fu i0) (h0 : i0 < i) (S : Sk X az r k i kind text n m at_ l U) (O : Out X r az R ((bU X.L X.E fu i).bind q))
 (h : ∀ ns j ad, j <= X.L.length -> i < j -> Sk X az r k j kind text n m at_ (l ++ ns) ad -> Out X r az R (q ns j) -> K' (.box k 0) ad) :
 ae K 169 [.box r 0] U (al (fun v U => (aD (some (87, 1)) (some [AV.aR]) 1 false [(0, v)]).wp K U (fun v U => ae K 103 [.box k 0, v] U (al K' (aa R))) (aa R)) (aa R)) :=
 jr S (hF _ S.hi h0).1 (hF _ S.hi h0).2 O h
theorem NK {fu : Nat} (hi : i <= X.L.length) (hF : eY X fu i) : Ct X 160 i ((bY X.L xH i).bind fun _ j => (gJ X.L j).bind fun x j => (bY X.L xC j).bind fun _ j => (jh X.L j).bind fun n j => (bY X.L cw j).bind fun _ j => (jh X.L j).bind fun m j => (bY X.L qm j).bind fun _ j => (bU X.L X.E fu j).bind fun a j => .ok (node 12 x n m (dR X.L X.E i) a) j) := by
 intro r U R hr O
 refine Iu ?_
 unfold It
 refine fo hr hi fun k bM S => ?_
 simp only [cH, ag, aU, ck]
 refine dB S O fun _ S O => lX S O fun x _ S O => lY S fun _ S => dB S O fun _ S O => ny S O fun _ _ S O => Fx S fun _ S => dB S O fun _ S O => ny S O fun _ _ S O => WN S fun _ S => dB S O fun _ S O => ?_
 exact ig hF (by omega) S O fun ns j dw hj eJ S O => dV S O
theorem KN {fu : Nat} (hi : i <= X.L.length) (hF : eY X fu i) : Ct X 161 i ((bY X.L qX i).bind fun _ j => (gJ X.L j).bind fun x j => (bY X.L qm j).bind fun _ j => (bU X.L X.E fu j).bind fun a j => (bY X.L kf j).bind fun _ j => (bU X.L X.E fu j).bind fun b j => .ok (node 13 x 0 0 (dR X.L X.E i) (a ++ b)) j) := by
 intro r U R hr O
 refine Iw ?_
 unfold Iv
 refine fo hr hi fun k bM S => ?_
 simp only [cH, ag, aU, ck]
 refine dB S O fun _ S O => lX S O fun x _ S O => lY S fun _ S => dB S O fun _ S O => ?_
 refine ig hF (by omega) S O fun ns j dw hj eJ S O => dB S O fun _ S O => ?_
 exact ig hF (by omega) S O fun ns j dw hj eJ S O => dV S O
theorem F9 {fu : Nat} (hi : i <= X.L.length) (hF : eY X fu i) : Ct X 162 i ((bY X.L o7 i).bind fun _ j => (bU X.L X.E fu j).bind fun a j => (bY X.L kf j).bind fun _ j => (bU X.L X.E fu j).bind fun b j => .ok (node 15 [] 0 0 (dR X.L X.E i) (a ++ b)) j) := by
 intro r U R hr O
 refine Iz ?_
 unfold Iy
 refine fo hr hi fun k bM S => ?_
 refine dB S O fun _ S O => ?_
 refine ig hF (by omega) S O fun ns j dw hj eJ S O => dB S O fun _ S O => ?_
 exact ig hF (by omega) S O fun ns j dw hj eJ S O => dV S O
theorem Hn {fu : Nat} (hi : i <= X.L.length) (hF : eY X fu i) : Ct X 163 i ((bY X.L o9 i).bind fun _ j => (gJ X.L j).bind fun x j => (bY X.L cw j).bind fun _ j => (jh X.L j).bind fun n j => (bY X.L qm j).bind fun _ j => (bU X.L X.E fu j).bind fun a j => .ok (node 14 x n 0 (dR X.L X.E i) a) j) := by
 intro r U R hr O
 refine IB ?_
 unfold IA
 refine fo hr hi fun k bM S => ?_
 simp only [cH, ag, aU, ck]
 refine dB S O fun _ S O => lX S O fun x _ S O => lY S fun _ S => dB S O fun _ S O => ny S O fun _ _ S O => Fx S fun _ S => dB S O fun _ S O => ?_
 exact ig hF (by omega) S O fun ns j dw hj eJ S O => dV S O
end
end Go.Rip
namespace Go.Rip
open Go.Proofs Go.RowKit
def gj : List (aW × Nat) := [(o7, 162), (yG, 158), (qX, 161), (xH, 160), (o9, 163), (ov, 159)]
theorem Ei : qu = .dL (gj.map fun p => .str p.1) (gj.map fun p => .func (.func p.2) [] []) := rfl
theorem pD (s : aW) (z : AV) : ∀ l : List (aW × AV), jf .s (.str s) z true (l.map fun p => .str p.1) (l.map fun p => p.2) = .val (.aL [match l.find? (fun p => p.1 = s) with | some p => p.2 | none => z, .bool (l.find? (fun p => p.1 = s)).isSome])
 | [] => rfl
 | p :: l => by
   simp only [de, jf, eD, List.find?_cons]
   by_cases h : s = p.1
   · subst h; simp
   · have h' : ¬ p.1 = s := fun e => h e.symm
     simp only [h', db]
     rw [show (s == p.1) = false by simp [h]]
     simpa using pD s z l
theorem Eg (s : aW) (U : St) : ez (some (.s, 186)) (some AV.cx) qu (.str s) true U = .val (.aL [match gj.find? (fun p => p.1 = s) with | some p => .func (.func p.2) [] [] | none => .cx, .bool (gj.find? (fun p => p.1 = s)).isSome]) := by
 rw [Ei]
 have := pD s .cx (gj.map fun p => (p.1, AV.func (.func p.2) [] []))
 simp only [ez, jb, mq]
 rw [List.map_map, List.map_map] at this
 rw [show (gj.map fun p => AV.str p.1) = List.map ((fun p : aW × AV => AV.str p.1) ∘ fun p => (p.1, AV.func (.func p.2) [] [])) gj from rfl, show (gj.map fun p => AV.func (.func p.2) [] []) = List.map ((fun p : aW × AV => p.2) ∘ fun p => (p.1, AV.func (.func p.2) [] [])) gj from rfl, this]
 congr 2
 rw [List.find?_map]
 have e : ((fun p : aW × AV => decide (p.1 = s)) ∘ fun p : aW × Nat => (p.1, AV.func (.func p.2) [] [])) = fun p => decide (p.1 = s) := rfl
 rw [e]
 cases gj.find? fun p => decide (p.1 = s) <;> rfl
theorem Cm (o : Option Tk) : Pure K 61 [.agg (mL o)] (.bool (p5 o [mZ, uH, mY])) := by
 refine Pure.of ?_ rfl (fun U => rfl) fun R hR => ?_
 · cases o <;> rfl
 refine Lm ?_
 have ht : (mL o).length = 3 := by cases o <;> rfl
 unfold MZ
 rw [eH rfl]
 intro b hb
 rw [show au (.agg (mL o)) = mL o from rfl, pO aN]
 refine ⟨by simp [ht], ?_⟩
 rw [fG]
 refine ⟨by omega, ?_⟩
 rw [ee (o := 0) (s := 1) rfl]
 refine ⟨⟨rfl, rfl, by simp [bp]⟩, ?_⟩
 rw [ee (o := 1) (s := 1) rfl]
 refine ⟨⟨rfl, rfl, by simp [bp, aB]⟩, ?_⟩
 rw [ee (o := 2) (s := 1) rfl]
 refine ⟨⟨rfl, rfl, by simp [bp, aB]⟩, ?_⟩
 rw [gw]
 refine ⟨rfl, ?_⟩
 rw [dC, vN (by omega)]
 exact vD (c := .full) o [mZ, uH, mY] (by simp) fun ad _ => aj.mk (hR ad)
theorem Ob (L : List Tk) (i : Nat) : p5 L[i]? [mZ, uH, mY] = Bm L i := by
 unfold p5 Bm bW
 cases h : L[i]? with
 | none => rfl
 | some t =>
   simp only [h]
   cases hk : (t.k == 3 || t.k == 4) with
   | false => simp
   | true =>
     simp only [Bool.true_and]
     rw [mC]
     simp [or_assoc]
section
variable {X : Rx} {az U : St} {r k i : Nat} {R : cm -> St -> Prop} {K' : AV -> St -> Prop} {Kp : AV -> St -> Prop} {f : FuncId}
theorem Sx {gd : FuncId} (he : cX K.P gd = true) {c : List AV} : (eT K.P (.func (.func gd) [] []) [.box r 0]).wp K U K' Kp = ae K gd [.box r 0] U (al K' Kp) := by
 simp [eT, he]
def Co (X : Rx) (i lev : Nat) (p : PR (List Nd)) : Prop := ∀ (r : Nat) (U : St) (R : cm -> St -> Prop), U.box r = some (rd X i) -> Out X r U R p -> ae K 219 [.box r 0, .int .i64 (lev : Nat)] U R
theorem NP {s : aW} {p : aW × Nat} (h : gj.find? (fun p => p.1 = s) = some p) : p ∈ gj /\ p.1 = s := ⟨List.mem_of_find?_eq_some h, by simpa using List.find?_some h⟩
theorem Kd {fu : Nat} (hi : i <= X.L.length) (hF : eY X fu i) (hO : Co X i 2 (ji X.L X.E fu 2 i)) : Ct X 169 i (bU X.L X.E (fu + 1) i) := by
 intro r U R hr O
 refine IK ?_
 unfold IJ
 refine lI hr hi 0 (by omega) fun bM e1 => ?_
 rw [Nat.add_zero]
 obtain ⟨kd, s, a, e, hm⟩ := pM X.L[i]?
 rw [e]
 simp only [bB, lq]
 intro b hb
 have A6 := e1.bA hr
 have e2 := e1.new (x := .box [AV.int .u8 0, AV.str [], AV.int .i64 0]) hb
 rw [show NV.at b .box = AV.box b 0 from rfl, dh aN]
 refine ⟨⟨rfl, rfl, by simp⟩, ?_⟩
 have e3 := e2.set (x := .box (aB [AV.int .u8 0, AV.str [], AV.int .i64 0] 0 (au (.agg [.int .u8 kd, .str s, .int .i64 a])))) (e1.fresh hb.1)
 generalize kZ : (bM.new b (.box [AV.int .u8 0, AV.str [], AV.int .i64 0])).set b (.box (aB [AV.int .u8 0, AV.str [], AV.int .i64 0] 0 (au (.agg [.int .u8 kd, .str s, .int .i64 a])))) = cC at e3 ⊢
 have il : cC.box b = some [.int .u8 kd, .str s, .int .i64 a] := by rw [<- kZ, aZ]; rfl
 have qB := e3.bA hr
 have A3 : ef r (rd X i) U cC := .nQ hr e3
 replace O := O.fp A3
 have et : ∀ t, X.L[i]? = some t -> s = t.s /\ kd = t.k := fun t ht => by
  rw [ht] at e; simp only [mL, lk, List.cons.injEq, AV.str.injEq, AV.int.injEq, true_and] at e; exact ⟨e.2.1.symm, e.1.symm⟩
 simp only [cH, aC, aU, nJ qB, rd, List.drop, eP, ck, nJ il, Eg, bP, aT, aI, mA]
 have UU : ∀ w ∈ gj.map (·.1), bW X.L i w = true -> kd = 3 /\ s = w := fun w hw h => by
  have : ∀ w ∈ gj.map (·.1), w ∈ mQ := by decide
  obtain ⟨t, ht, hk, hs⟩ := NT X.ok (this w hw) h
  obtain ⟨h1, h2⟩ := et t ht
  exact ⟨by omega, h1.trans hs⟩
 have fin : (¬ (kd = 3 /\ s ∈ gj.map (·.1))) -> (∀ w ∈ gj.map (·.1), bW X.L i w = false) := fun h w hw => by
  cases hx : bW X.L i w with
  | false => rfl
  | true => obtain ⟨h1, h2⟩ := UU w hw hx; exact absurd ⟨h1, h2 ▸ hw⟩ h
 by_cases hc : kd = 3 /\ s ∈ gj.map (·.1)
 · obtain ⟨h3, hs⟩ := hc
   obtain ⟨t, ht, hk, yY⟩ := (hm 3 (by omega)).1 h3
   subst h3
   have Bd : bW X.L i s = true := NU ht (.inl hk) yY
   have bX : ∀ w ∈ gj.map (·.1), w ≠ s -> ¬ (bW X.L i w = true) := fun w hw hn h => hn (UU w hw h).2.symm
   have key : ∃ gd, gj.find? (fun p => p.1 = s) = some (s, gd) /\ cX K.P gd = true /\ ∃ p, Ct X gd i p /\ bU X.L X.E (fu + 1) i = p := by
    have hnd : bY X.L s i = .ok () (i + 1) := by simp [bY, Bd]
    have c7 : s ∈ gj.map (·.1) := hs
    simp only [gj, de, iL, dD, List.not_mem_nil, or_false] at hs
    rcases hs with rfl | rfl | rfl | rfl | rfl | rfl
    · exact ⟨162, rfl, by kernel_rfl, _, F9 hi hF, by rw [bU, if_neg (bX _ (by decide) (by decide)), if_neg (bX _ (by decide) (by decide)), if_neg (bX _ (by decide) (by decide)), if_neg (bX _ (by decide) (by decide)), if_pos Bd, hnd]; rfl⟩
    · exact ⟨158, rfl, by kernel_rfl, _, F8 hi hF, by rw [bU, if_pos Bd, hnd]; rfl⟩
    · exact ⟨161, rfl, by kernel_rfl, _, KN hi hF, by rw [bU, if_neg (bX _ (by decide) (by decide)), if_neg (bX _ (by decide) (by decide)), if_neg (bX _ (by decide) (by decide)), if_pos Bd, hnd]; rfl⟩
    · exact ⟨160, rfl, by kernel_rfl, _, NK hi hF, by rw [bU, if_neg (bX _ (by decide) (by decide)), if_neg (bX _ (by decide) (by decide)), if_pos Bd, hnd]; rfl⟩
    · exact ⟨163, rfl, by kernel_rfl, _, Hn hi hF, by rw [bU, if_neg (bX _ (by decide) (by decide)), if_neg (bX _ (by decide) (by decide)), if_neg (bX _ (by decide) (by decide)), if_neg (bX _ (by decide) (by decide)), if_neg (bX _ (by decide) (by decide)), if_pos Bd, hnd]; rfl⟩
    · exact ⟨159, rfl, by kernel_rfl, _, N4 hi hF, by rw [bU, if_neg (bX _ (by decide) (by decide)), if_pos Bd, hnd]; rfl⟩
   obtain ⟨gd, h1, h2, p, h3, h4⟩ := key
   rw [h1]
   simp only [Option.isSome_some, fC, bT, aC, j6, nJ il, List.drop, eP, bf, cV, aG, if_true, ag, bm]
   rw [Sx h2 (c := [])]
   rw [h4] at O
   exact yx h3 qB O
 · have hw := fin hc
   have hf : ∀ w ∈ gj.map (·.1), ¬ (bW X.L i w = true) := fun w h => by rw [hw w h]; simp
   rw [bU, if_neg (hf _ (by decide)), if_neg (hf _ (by decide)), if_neg (hf _ (by decide)), if_neg (hf _ (by decide)), if_neg (hf _ (by decide)), if_neg (hf _ (by decide))] at O
   have VL : ∀ (c : Option (aW × Nat)) (A B : Prop), gj.find? (fun p => p.1 = s) = c -> (c.isSome = true -> kd ≠ 3) := fun c A B h1 h2 h3 => by
    cases c with
    | none => cases h2
    | some p => exact hc ⟨h3, by obtain ⟨k1, k2⟩ := NP h1; exact List.mem_map.2 ⟨p, k1, k2⟩⟩
   have ZZ : ∀ (V : AV) (A B : Prop), B -> ay (.bool false) A B := fun _ _ _ hB => by rw [aX]; exact hB
   have rest : ko 2
    (fun v0 gH U =>
      ay gH (
    ae K 99 [v0, (AV.int .u8 16)] U (al (fun iU U =>
    ae K 101 [v0] U (al (fun lZ U =>
    (a8 iU).wp K U (fun nS U =>
    (af (some 0) nS).wp K U (fun iu U =>
    (af (some 1) iu).wp K U (fun o5 U =>
    (aM (some (false, 1)) o5 lZ U).wp K U (fun _ U =>
    ae K 102 [v0, (AV.str cw)] U (al (fun v46 U =>
    ae K 169 [v0] U (al (fun v49 U =>
    (aD (some (87, 1)) (some [AV.aR]) 1 false [(0, v49)]).wp K U (fun sJ U =>
    ae K 103 [iU, sJ] U (al (fun v51 U =>
    aj R v51 U) (aa R))) (aa R)) (aa R))) (aa R))) (aa R)) (aa R)) (aa R)) (aa R)) (aa R))) (aa R))) (
    ae K 219 [v0, (AV.int .i64 2)] U (al (fun v53 U =>
    aj R v53 U) (aa R)))) (fun j =>
     aA.wp K cC
      (fun dS U =>
        aA.wp K U
         (fun v30 U =>
           ah K (aF v30 true) (aA.val (AV.box r 0)) fun jP =>
            ay (aF v30 true)
             (ae K 167 [jP, AV.int IntKind.i64 1] U
               (al
                 (fun fD U =>
                   ah K (aF v30 true)
                    (aD (some (9, 1)) (some [AV.str []]) 1 false [(0, AV.str cw)]) fun gY =>
                    ah K (aF v30 true) (aA.enter 121 [fD, gY]) fun gZ =>
                     aA.wp K U (fun nj U => j (AV.box r 0) nj U) (aa R)
                      (bu v30 gZ (AV.bool false)))
                 (aa R)))
             (ah K (aF v30 true)
               (aD (some (9, 1)) (some [AV.str []]) 1 false [(0, AV.str cw)]) fun FD =>
               ah K (aF v30 true) (aA.enter 121 [AV.aL [], FD]) fun xv =>
                aA.wp K U (fun nj U => j (AV.box r 0) nj U) (aa R)
                 (bu v30 xv (AV.bool false))))
         (aa R)
         (aw BinOp.eql { b := false, i := false, p := false, f := none, s := false } true dS (AV.int IntKind.u8 1)))
      (aa R) (ao (some (false, 1)) (AV.box b 0) cC)) := by
    intro j hj
    have yes : pX X.L i 1 = true -> bW X.L (i + 1) cw = true -> ∀ cU, ef r (rd X i) cC cU -> j (.box r 0) (.bool true) cU := fun g1 g2 cU A4 => by
     refine hj _ _ _ ?_
     rw [if_pos ⟨g1, g2⟩] at O
     replace O := O.fp A4
     rw [bm]
     refine fo A4.box hi fun k dw S => ?_
     simp only [cH, ag, aU, ck]
     refine lX S O fun x _ S O => lY S fun _ S => dB S O fun _ S O => ?_
     exact ig hF (by omega) S O fun ns j dw hj eJ S O => dV S O
    have no : ¬ (pX X.L i 1 = true /\ bW X.L (i + 1) cw = true) -> ∀ cU, ef r (rd X i) cC cU -> j (.box r 0) (.bool false) cU := fun g cU A4 => by
     refine hj _ _ _ ?_
     rw [if_neg g] at O
     replace O := O.fp A4
     rw [aX]
     exact hO r cU _ A4.box ⟨fun ns j e hj a ad hk A => aj.mk (O.ok ns j e hj a ad hk A), O.bad⟩
    have oH : pX X.L i 1 = decide (kd = 1) := by
     unfold pX
     cases ht : X.L[i]? with
     | none => rw [ht] at e; simp only [mL, List.cons.injEq, AV.int.injEq, true_and] at e; simp [<- e.1]
     | some t => obtain ⟨_, h2⟩ := et t ht; rw [h2]; rw [mC]; simp; omega
    rw [eK il]
    simp only [List.drop, bD, bf, ag, aT]
    by_cases h1 : kd = 1
    · simp only [h1, cV, fC, aI, bT, aC, j6, bm]
      refine lI qB hi 1 (by omega) fun cU e4 => ?_
      simp only [bB]
      rw [vM]
      refine ⟨by omega, ?_⟩
      rw [tJ (o := 0) (s := 1) rfl]
      refine ⟨⟨rfl, rfl, by simp [bp]⟩, ?_⟩
      rw [ym]
      refine ⟨rfl, _, EL (c := .full) (X.L[i + 1]?) [cw] (by simp) rfl, ?_⟩
      rw [uB]
      simp only [aG, if_true, ag]
      cases Vc : bW X.L (i + 1) cw with
      | true => exact yes (by rw [oH]; simp [h1]) Vc _ (.nQ qB e4)
      | false => exact no (by rw [Vc]; simp) _ (.nQ qB e4)
    · have Qd : (decide (kd = 1) == true) = false := by simp [h1]
      simp only [Qd, aI, bS, aX, h1, db, aG, bl, if_false, ag]
      simp only [beq_true, bS, aX]
      exact no (by rw [oH]; simp [h1]) _ ⟨qB, gb.refl _ _⟩
   cases oE : gj.find? (fun p => p.1 = s) with
   | none =>
     simp only [Option.isSome_none, bS, show (false == true) = false from rfl, aG, bl, if_false, ag, aX]
     exact rest
   | some p =>
     have h3 : ¬ kd = 3 := VL _ True True oE rfl
     simp only [Option.isSome_some, fC, bT, aC, j6, nJ il, List.drop, eP, bf, h3, db, aG, if_true, ag, aX]
     exact rest
end
end Go.Rip
namespace Go.Rip
open Go.Proofs Go.RowKit
def qL (lev : Nat) : List (aW × Int) :=
 if lev = 2 then [(FO, 17)] else if lev = 3 then [(z8, 18)] else if lev = 5 then [(xD, 21), (xE, 20)] else if lev = 6 then [(xz, 22), (xB, 23)] else if lev = 7 then [(xy, 24)] else if lev = 8 then [(FH, 25)] else []
def MO (lev : Nat) : AV := .dL ((qL lev).map fun p => .str p.1) ((qL lev).map fun p => .int .u8 p.2)
theorem K2 (lev : Nat) (h : lev = 2 \/ lev = 3 \/ lev = 5 \/ lev = 6 \/ lev = 7 \/ lev = 8) (U : St) : ez (some (.i, 185)) (some AV.iK) BI (.int .i64 (lev : Nat)) false U = .val (MO lev) := by
 rcases h with rfl | rfl | rfl | rfl | rfl | rfl <;> rfl
theorem K3 (lev : Nat) (s : aW) (U : St) : ez (some (.s, 5)) (some (AV.int .u8 0)) (MO lev) (.str s) true U = .val (.aL [.int .u8 (match (qL lev).find? (fun p => p.1 = s) with | some p => p.2 | none => 0), .bool ((qL lev).find? (fun p => p.1 = s)).isSome]) := by
 have := pD s (.int .u8 0) ((qL lev).map fun p => (p.1, AV.int .u8 p.2))
 rw [List.map_map, List.map_map, List.find?_map] at this
 simp only [ez, jb, mq, MO]
 rw [show ((qL lev).map fun p => AV.str p.1) = List.map ((fun p : aW × AV => AV.str p.1) ∘ fun p => (p.1, AV.int .u8 p.2)) (qL lev) from rfl, show ((qL lev).map fun p => AV.int .u8 p.2) = List.map ((fun p : aW × AV => p.2) ∘ fun p => (p.1, AV.int .u8 p.2)) (qL lev) from rfl, this]
 have e : ((fun p : aW × AV => decide (p.1 = s)) ∘ fun p : aW × Int => (p.1, AV.int .u8 p.2)) = fun p => decide (p.1 = s) := rfl
 rw [e]
 cases (qL lev).find? fun p => decide (p.1 = s) <;> rfl
theorem DM (L : List Tk) (lev i : Nat) : BG L lev i = ((qL lev).find? (fun p => p.1 = mV L[i]?)).map (·.2) := by
 have hw : ∀ w : aW, w ≠ [] -> bW L i w = decide (w = mV L[i]?) := fun w h => by rw [zd h]; simp [eq_comm]
 unfold BG qL
 rw [hw FO (by decide), hw z8 (by decide), hw xE (by decide), hw xD (by decide), hw xz (by decide), hw xB (by decide), hw xy (by decide), hw FH (by decide)]
 generalize mV L[i]? = s
 repeat' split
 all_goals simp_all
 all_goals (subst_vars; rfl)
section
variable {X : Rx} {az U : St} {r k i : Nat} {kind : Int} {text : aW} {n m at_ : Int} {l : List Nd} {R : cm -> St -> Prop} {K' : AV -> St -> Prop} {Kp : AV -> St -> Prop}
theorem DT (hr : U.box r = some (rd X i)) (hi : i <= X.L.length) (h : ∀ ad, cF U ad -> R (.ret (.str (mV X.L[i]?))) ad) : ae K 253 [.box r 0] U R := by
 refine Jn ?_
 unfold Jm
 refine lI hr hi 0 (by omega) fun bM e1 => ?_
 rw [Nat.add_zero]
 have lr : ∃ kd s a, mL X.L[i]? = [.int .u8 kd, .str s, .int .i64 a] /\ mV X.L[i]? = if kd = 3 \/ kd = 4 then s else [] := by
  cases ht : X.L[i]? with
  | none => exact ⟨0, [], 0, rfl, rfl⟩
  | some t =>
    refine ⟨t.k, t.s, t.at_, rfl, ?_⟩
    have e3 : ((t.k : Int) = 3) = (t.k = 3) := by simp; omega
    have e4 : ((t.k : Int) = 4) = (t.k = 4) := by simp; omega
    simp only [mV, e3, e4]
 obtain ⟨kd, s, a, e, Yz⟩ := lr
 rw [e]
 rw [Yz] at h
 simp only [bB, lq]
 intro b hb
 have e2 := e1.new (x := .box [AV.int .u8 0, AV.str [], AV.int .i64 0]) hb
 rw [show NV.at b .box = AV.box b 0 from rfl, dh aN]
 refine ⟨⟨rfl, rfl, by simp⟩, ?_⟩
 have e3 := e2.set (x := .box (aB [AV.int .u8 0, AV.str [], AV.int .i64 0] 0 (au (.agg [.int .u8 kd, .str s, .int .i64 a])))) (e1.fresh hb.1)
 generalize kZ : (bM.new b (.box [AV.int .u8 0, AV.str [], AV.int .i64 0])).set b (.box (aB [AV.int .u8 0, AV.str [], AV.int .i64 0] 0 (au (.agg [.int .u8 kd, .str s, .int .i64 a])))) = cC at e3 ⊢
 have il : cC.box b = some [.int .u8 kd, .str s, .int .i64 a] := by rw [<- kZ, aZ]; rfl
 simp only [aU, ag, eK il, List.drop, bD, ck, bf, aT, aI, mA, bT]
 by_cases h3 : kd = 3
 · subst h3
   simp [eK il, bD]
   exact aj.mk (h _ e3)
 · by_cases h4 : kd = 4
   · subst h4
     simp [eK il, nJ il, bD]
     exact aj.mk (h _ e3)
   · simp [eK il, nJ il, bD, h3, h4]
     refine aj.mk ?_
     have := h _ e3
     rw [if_neg (by omega)] at this
     exact this
theorem Jw (S : Sk X az r k i kind text n m at_ l U) (aH : i < X.L.length) {bt : BT} {lit : Bool} (h : ∀ ad, Sk X az r k (i + 1) kind text n m at_ l ad -> K' (.aL []) ad) :
 (ao (some (false, 1)) (.box r 1) U).wp K U (fun v U => (aw .add bt lit v (.int .i64 1)).wp K U (fun v U => (aM (some (false, 1)) (.box r 1) v U).wp K U K' Kp) Kp) Kp := by
 have hs := X.small
 have hr := S.A.box
 simp only [eK hr, rd, List.drop, bD, cW]
 refine ⟨bh (by omega) (by omega), ?_⟩
 rw [dh hr]
 refine ⟨⟨rfl, rfl, by simp [rd]⟩, h _ (S.fp (j := i + 1) ⟨?_, (gb.refl r U).set (.inr rfl)⟩ aH (by omega))⟩
 rw [aZ]; simp [aB, rd]
theorem dq.ne_nil : ∀ {b : Bool} {ks : List AV} {l : List Nd}, dq b ks l -> b = true -> l = [] -> ks = [] := by
 have h1 : ∀ {b : Bool} {ks : List AV} {l : List Nd}, dq b ks l -> b = false -> l ≠ [] := fun h e => by
  cases h with
  | mk _ _ => simp [node]
  | nil => cases e
  | cons _ _ => cases e
 intro b ks l h e hl
 cases h with
 | mk _ _ => cases e
 | nil => rfl
 | cons a c => exact absurd (List.append_eq_nil_iff.1 hl).1 (h1 a rfl)
theorem dq.cr {a : AV} {ns : List Nd} (hk : dq false [a] ns) : a.cr = true /\ au a = [a] := by
 generalize hb : false = b at hk
 generalize hl : [a] = la at hk
 cases hk with
 | mk _ _ => cases hl; exact ⟨rfl, rfl⟩
 | nil => cases hl
 | cons _ _ => cases hb
theorem B0 {a : AV} {ns : List Nd} (S : Sk X az r k i kind text n m at_ [] U) (hk : dq false [a] ns) (h : ∀ a' ad, dq false [a'] (node kind text n m at_ ns) -> ef r (rd X i) az ad -> K' a' ad) :
 (aD (some (87, 1)) (some [AV.aR]) 1 false [(0, a)]).wp K U (fun v U => ae K 103 [.box k 0, v] U (al K' Kp)) Kp := by
 obtain ⟨ks, h1, h2, h3⟩ := S.M
 have := h2.ne_nil rfl rfl
 subst this
 rw [fG]
 refine ⟨by omega, ?_⟩
 rw [ee (o := 0) (s := 1) rfl]
 refine ⟨⟨hk.cr.1, by rw [hk.cr.2]; rfl, by simp [bp]⟩, ?_⟩
 rw [gw, hk.cr.2]
 refine ⟨rfl, ?_⟩
 exact DZ (l2 := [a]) h1 S.A (by omega) rfl (by simp) fun ad M A => M.done (h2.snoc hk) A fun a' ad hk A => h a' ad hk A
theorem LH {a b : AV} {ns ms : List Nd} (S : Sk X az r k i kind text n m at_ [] U) (hk : dq false [a] ns) (er : dq false [b] ms) (h : ∀ a' ad, dq false [a'] (node kind text n m at_ (ns ++ ms)) -> ef r (rd X i) az ad -> K' a' ad) :
 (aD (some (87, 1)) (some [AV.aR]) 2 false [(0, a), (1, b)]).wp K U (fun v U => ae K 103 [.box k 0, v] U (al K' Kp)) Kp := by
 obtain ⟨ks, h1, h2, h3⟩ := S.M
 have := h2.ne_nil rfl rfl
 subst this
 rw [fG]
 refine ⟨by omega, ?_⟩
 rw [ee (o := 0) (s := 1) rfl]
 refine ⟨⟨hk.cr.1, by rw [hk.cr.2]; rfl, by simp [bp]⟩, ?_⟩
 rw [hk.cr.2]
 rw [ee (o := 1) (s := 1) rfl]
 refine ⟨⟨er.cr.1, by rw [er.cr.2]; rfl, by simp [bp, aB]⟩, ?_⟩
 rw [gw, er.cr.2]
 refine ⟨rfl, ?_⟩
 exact DZ (l2 := [a, b]) h1 S.A (by omega) rfl (by simp) fun ad M A => M.done (by simpa using (h2.snoc hk).snoc er) A fun a' ad hk A => h a' ad hk A
def Ad (X : Rx) (fu : Nat) : Prop := ∀ f', f' <= fu -> ∀ j lev, j <= X.L.length -> 2 <= lev -> lev <= 9 -> 40 * (X.L.length - j) + (11 - lev) <= f' -> Co X j lev (ji X.L X.E f' lev j) /\ Gd X.L.length (j + 1) j (ji X.L X.E f' lev j)
theorem Om {fu lev : Nat} (hi : i <= X.L.length) (h2 : 2 <= lev) (h9 : lev <= 9) (hf : 40 * (X.L.length - i) + (11 - lev) <= fu + 1) (hA : lev = 9 -> Ct X 252 i (rj X.L X.E fu i)) (hS : Ad X fu) : Co X i lev (ji X.L X.E (fu + 1) lev i) := by
 intro r U R hr O
 refine Jb ?_
 unfold Ja
 have hs := X.small
 simp only [bf, ag, br]
 refine ⟨fun e9 => ?_, fun n9 => ⟨fun e4 => ?_, fun n4 => ?_⟩⟩
 · have e9 : lev = 9 := by omega
   rw [ji, if_pos e9] at O
   exact yx (hA e9) hr O
 · have e4 : lev = 4 := by omega
   have n9 : ¬ lev = 9 := by omega
   rw [ji, if_neg n9, if_pos e4] at O
   refine fo hr hi fun k bM S => ?_
   refine xl S (fun hw bN S => ?_) fun hw bN S => ?_
   · rw [if_pos hw] at O
     simp only [bm]
     have aH := cG hw
     obtain ⟨g1, g2⟩ := hS fu (cA _) (i + 1) 4 aH (by omega) (by omega) (by omega)
     refine g1 r bN _ S.A.box ⟨fun ns j e hj a ad hk A => ?_, fun j e ad A => O.bad j (by rw [e]; rfl) ad (S.A.trans A)⟩
     rw [e] at g2 O
     have eJ : i + 1 < j := g2.1
     refine B0 (S.fp A hj (by omega)) hk fun a' ad Dp A' => ?_
     exact aj.mk (O.ok _ _ rfl hj a' ad Dp A')
   · rw [if_neg (by rw [hw]; simp)] at O
     simp only [aX, cW]
     refine ⟨bh (by omega) (by omega), ?_⟩
     obtain ⟨g1, g2⟩ := hS fu (cA _) i 5 hi (by omega) (by omega) (by omega)
     subst e4
     refine g1 r bN _ S.A.box ?_
     replace O := O.fp S.A
     exact ⟨fun ns j e hj a ad hk A => aj.mk (O.ok ns j e hj a ad hk A), O.bad⟩
 · have n9 : ¬ lev = 9 := by omega
   have n4 : ¬ lev = 4 := by omega
   rw [ji, if_neg n9, if_neg n4] at O
   rw [cW]
   refine ⟨bh (by omega) (by omega), ?_⟩
   obtain ⟨g1, g2⟩ := hS fu (cA _) i (lev + 1) hi (by omega) (by omega) (by omega)
   rw [show ((lev : Nat) : Int) + 1 = ((lev + 1 : Nat) : Int) by omega]
   refine g1 r U _ hr ⟨fun ns j e hj a bM hk A => ?_, fun j e ad A => O.bad j (by rw [e]; rfl) ad A⟩
   rw [e] at g2 O
   have eJ : i < j := g2.1
   replace O : Out X r bM R (rO X.L X.E fu lev ns j) := Out.fp O A
   refine ⟨fun mm v0 v1 v6 ad => ∃ left j f', mm = X.L.length - j /\ v0 = .box r 0 /\ v1 = .int .i64 (lev : Nat) /\ j <= X.L.length /\ i < j /\ 40 * (X.L.length - j) + 1 <= f' /\ f' <= fu /\ dq false [v6] left /\ ad.box r = some (rd X j) /\ Out X r ad R (rO X.L X.E f' lev left j),
    ⟨_, ns, j, fu, rfl, rfl, rfl, hj, eJ, by omega, cA _, hk, A.box, O⟩, ?_⟩
   clear hk A O eJ hj e g1 g2
   rintro mm v0 v1 v6 bN ⟨left, j, f', rfl, rfl, rfl, hj, eJ, Ml, Qs, hk, mh, O⟩
   cases f' with
   | zero => omega
   | succ f' =>
     rw [rO, DM] at O
     simp only [cH, aC, aU, ck, nJ mh, rd, List.drop, eP, K2 lev (by omega)]
     refine DT mh hj fun cC e3 => ?_
     simp only [bB]
     refine ⟨?_, ?_, ?_⟩
     · intro b hb
       simp only [cQ, BI, iN, jI, kO, dD, List.not_mem_nil, or_false] at hb
       subst hb
       cases e : bN.live b with
       | none => exact absurd e (dy mh)
       | some x => exact e3 b x e
     · intro b hb
       simp [cQ, MO] at hb
     simp only [K3, aC, bP, List.drop, eP, dm, ag]
     have A3 : ef r (rd X j) bN cC := .nQ mh e3
     cases hop : (qL lev).find? fun p => p.1 = mV X.L[j]? with
     | none =>
       rw [hop] at O
       simp only [Option.isSome_none, dJ, bm]
       exact aj.mk (O.ok _ _ rfl hj _ cC hk A3)
     | some p =>
       rw [hop] at O
       replace O := O.fp A3
       simp only [Option.isSome_some, cu, aX]
       have aH : j < X.L.length := DN (lev := lev) (k := p.2) (by rw [DM, hop]; rfl)
       refine fo A3.box hj fun k cU S => ?_
       simp only [cH, ag, aU, ck]
       refine Jw S aH fun dw S => ?_
       simp only [bf, ag, br]
       simp only [Option.map_some] at O
       refine ⟨fun e8 => ?_, fun n8 => ?_⟩
       · have e8 : lev = 8 := by omega
         rw [if_pos e8] at O
         refine ny S O fun x nD S O => Fx S fun l8 S => ?_
         have gA := S.hi
         refine B0 S hk fun a' ad Dp A' => ?_
         exact ⟨_, by omega, _, j + 1 + 1, f', rfl, rfl, rfl, S.hi, by omega, by omega, by omega, Dp, A'.box, O.fp A'⟩
       · have n8 : ¬ lev = 8 := by omega
         rw [if_neg n8] at O
         simp only [cW]
         refine ⟨bh (by omega) (by omega), ?_⟩
         obtain ⟨g1, g2⟩ := hS f' (by omega) (j + 1) (lev + 1) aH (by omega) (by omega) (by omega)
         rw [show ((lev : Nat) : Int) + 1 = ((lev + 1 : Nat) : Int) by omega]
         refine g1 r dw _ S.A.box ⟨fun ns j2 e oG b nD UQ A => ?_, fun j e ad A => O.bad j (by rw [e]; rfl) ad (S.A.trans A)⟩
         rw [e] at g2 O
         have x9 : j + 1 < j2 := g2.1
         refine LH (S.fp A oG (by omega)) hk UQ fun a' ad Dp A' => ?_
         replace O : Out X r cC R (if lev = 5 then .ok (node p.2 [] 0 0 (dR X.L X.E j) (left ++ ns)) j2 else rO X.L X.E f' lev (node p.2 [] 0 0 (dR X.L X.E j) (left ++ ns)) j2) := O
         refine ⟨fun e5 => ?_, fun n5 => ?_⟩
         · rw [if_pos (by omega)] at O
           exact aj.mk (O.ok _ _ rfl oG a' ad Dp A')
         · rw [if_neg (by omega)] at O
           exact ⟨_, by omega, _, j2, f', rfl, rfl, rfl, oG, by omega, by omega, by omega, Dp, A'.box, O.fp A'⟩
end
end Go.Rip
namespace Go.Rip
open Go.Proofs Go.RowKit
theorem dq.size {a : AV} {l : List Nd} (h : dq false [a] l) : ∃ x r, l = x :: r /\ x.size = (l.length : Int) := by
 generalize hb : false = b at h
 generalize hl : [a] = la at h
 cases h with
 | mk _ _ => exact ⟨_, _, rfl, by simp [node]⟩
 | nil => cases hl
 | cons _ _ => cases hb
theorem dq.count : ∀ {ks ks' : List AV} {l : List Nd}, dq true ks l -> dq true ks' l -> ks.length = ks'.length
 | [], ks', l, h, h' => by
   have : l = [] := by
    generalize hb : true = b at h
    generalize hl : ([] : List AV) = la at h
    cases h with
    | mk _ _ => cases hb
    | nil => rfl
    | cons _ _ => cases hl
   rw [h'.ne_nil rfl this]
 | a :: ks, ks', l, h, h' => by
   generalize hb : true = b at h
   generalize hl : a :: ks = la at h
   cases h with
   | mk _ _ => cases hb
   | nil => cases hl
   | @cons a1 ZS l1 l2 h1 h2 =>
     cases hl
     obtain ⟨x, r, e1, e2⟩ := h1.size
     generalize GG : l1 ++ l2 = ll at h'
     generalize dz : true = b' at h'
     cases h' with
     | mk _ _ => cases dz
     | nil => rw [e1] at GG; cases GG
     | @cons a3 ZT l3 l4 h3 h4 =>
       obtain ⟨y, r', e3, e4⟩ := h3.size
       have GQ : x = y := by rw [e1, e3] at GG; simpa using congrArg List.head? GG
       have hlen : l1.length = l3.length := by rw [GQ] at e2; omega
       obtain ⟨_, Xr⟩ := List.append_inj GG hlen
       subst Xr
       simp [dq.count h2 h4]
section
variable {X : Rx} {az U : St} {r k i : Nat} {kind : Int} {text : aW} {n m at_ : Int} {l : List Nd} {R : cm -> St -> Prop} {K' : AV -> St -> Prop} {Kp : AV -> St -> Prop} {w : aW}
theorem LI {q : Unit -> Nat -> PR (List Nd)} (hr : U.box r = some (rd X i)) (hi : i <= X.L.length) (O : Out X r U R ((bY X.L w i).bind q)) (h : ∀ ad, i + 1 <= X.L.length -> ef r (rd X (i + 1)) U ad -> Out X r ad R (q () (i + 1)) -> K' (.aL []) ad) : ae K 102 [.box r 0, .str w] U (al K' (aa R)) :=
 yj hr hi w (fun e hl ad A => h ad hl A (by rw [e] at O; exact Out.fp O A)) fun e ad A => O.bad _ (by rw [e]; rfl) _ A
theorem yy (S : Sk X az r k i kind text n m at_ l U) (hb : bW X.L i w = true) (h : ∀ ad, Sk X az r k (i + 1) kind text n m at_ l ad -> K' (.aL []) ad) : ae K 102 [.box r 0, .str w] U (al K' Kp) :=
 yj S.A.box S.hi w (fun e hl ad A => h ad (S.fp A hl (by omega))) fun e ad A => by simp [bY, hb] at e
structure Below (X : Rx) (fu : Nat) : Prop where
 term : ∀ f', f' <= fu -> ∀ j, j <= X.L.length -> 40 * (X.L.length - j) + 11 <= f' -> Ct X 109 j (se X.L X.E f' j)
 first : ∀ f', f' <= fu -> ∀ j, j <= X.L.length -> 40 * (X.L.length - j) + 10 <= f' -> Ct X 169 j (bU X.L X.E f' j)
 oper : ∀ f', f' <= fu -> ∀ j lev, j <= X.L.length -> 2 <= lev -> lev <= 9 -> 40 * (X.L.length - j) + (11 - lev) <= f' -> Co X j lev (ji X.L X.E f' lev j)
 atom : ∀ f', f' <= fu -> ∀ j, j <= X.L.length -> 40 * (X.L.length - j) + 1 <= f' -> Ct X 252 j (rj X.L X.E f' j)
 arg : ∀ f', f' <= fu -> ∀ j, j <= X.L.length -> 40 * (X.L.length - j) + 12 <= f' -> Ct X 269 j (mO X.L X.E f' j)
theorem Below.Gk {fu i : Nat} (B : Below X fu) (hf : 40 * (X.L.length - i) + 10 <= fu + 40) : eY X fu i := fun j hj eJ =>
 ⟨B.first fu (cA _) j hj (by omega), (x5 fu).2.2.1 j hj (by omega)⟩
theorem Below.ops {fu : Nat} (B : Below X fu) : Ad X fu := fun f' hf j lev hj h2 h9 he => ⟨B.oper f' hf j lev hj h2 h9 he, (x5 f').2.2.2.1 j lev hj h9 he⟩
theorem NC {fu : Nat} (B : Below X fu) (he : 40 * (X.L.length - i) + 12 <= fu) {q : List Nd -> Nat -> PR (List Nd)} (S : Sk X az r k i kind text n m at_ l U) (O : Out X r az R ((mO X.L X.E fu i).bind fun a j => (nV X.L X.E fu a j).bind q))
 (h : ∀ ns j ad, j <= X.L.length -> i < j -> Sk X az r k j kind text n m at_ (l ++ ns) ad -> Out X r az R (q ns j) -> K' (.aL []) ad) : ae K 106 [.box r 0, .box k 0, .func (.func 269) [.box r 0] []] U (al K' (aa R)) := by
 refine zt ?_
 unfold BV
 have iq : cX K.P 269 = true := by kernel_rfl
 rw [Aa iq (c := [])]
 simp only [wY]
 have C : ∀ f', f' <= fu -> ∀ j, j <= X.L.length -> 40 * (X.L.length - j) + 12 <= f' -> Ct X 269 j (mO X.L X.E f' j) /\ Gd X.L.length (j + 1) j (mO X.L X.E f' j) := fun f' h1 j h2 h3 => ⟨B.arg f' h1 j h2 h3, (x5 f').2.2.2.2.2.2.2 j h2 h3⟩
 obtain ⟨c1, c2⟩ := C fu (cA _) i S.hi he
 refine jr S c1 c2 O fun ns j bM hj eJ S1 O1 => ?_
 refine ⟨fun mm v0 v1 v2 ad => ∃ acc j f', mm = X.L.length - j /\ v0 = .box r 0 /\ v1 = .box k 0 /\ v2 = .func (.func 269) [.box r 0] [] /\ j <= X.L.length /\ i < j /\ 40 * (X.L.length - j) + 1 <= f' /\ f' <= fu /\ Sk X az r k j kind text n m at_ (l ++ acc) ad /\ Out X r az R ((nV X.L X.E f' acc j).bind q),
  ⟨_, ns, j, fu, rfl, rfl, rfl, rfl, hj, eJ, by omega, cA _, S1, O1⟩, ?_⟩
 rintro mm v0 v1 v2 bN ⟨acc, j2, f', rfl, rfl, rfl, rfl, oG, x9, Qs, ZH, S2, O2⟩
 cases f' with
 | zero => omega
 | succ f' =>
   rw [nV] at O2
   refine xl S2 (fun hw cC S3 => ?_) (fun hw cC S3 => ?_)
   · simp only [bm]
     rw [if_pos hw] at O2
     have aH := cG hw
     rw [Aa iq (c := [])]
     have e2 : ((mO X.L X.E f' (j2 + 1)).bind fun b j => nV X.L X.E f' (acc ++ b) j).bind q = (mO X.L X.E f' (j2 + 1)).bind fun b j => (nV X.L X.E f' (acc ++ b) j).bind q := by
      cases mO X.L X.E f' (j2 + 1) <;> rfl
     rw [e2] at O2
     obtain ⟨c1, c2⟩ := C f' (by omega) _ aH (by omega)
     refine jr S3 c1 c2 O2 fun Re j3 cU Qy VZ S4 O4 => ?_
     exact ⟨_, by omega, acc ++ Re, j3, f', rfl, rfl, rfl, rfl, Qy, by omega, by omega, by omega, by rw [<- oY]; exact S4, O4⟩
   · simp only [aX]
     rw [if_neg (by rw [hw]; simp)] at O2
     exact aj.mk (h acc j2 cC oG x9 S3 O2)
theorem PN {fu : Nat} (B : Below X fu) (hi : i <= X.L.length) (he : 40 * (X.L.length - i) + 12 <= fu + 1) : Ct X 269 i (mO X.L X.E (fu + 1) i) := by
 intro r U R hr O
 refine Jp ?_
 unfold Jo
 rw [mO] at O
 have hs := X.small
 have hF := B.Gk (i := i) (by omega)
 refine Jx hr hi fun b bM hb A1 => ?_
 replace O := O.fp A1
 cases b with
 | true =>
   simp only [bm]
   rw [if_pos hb] at O
   refine fo A1.box hi fun k bN S => ?_
   refine yy S hb fun cC S => dB S O fun cC S O => ?_
   refine N3 (by kernel_rfl) (fun i hi => C6 hi) (fun i hi => rk hi) (by omega) (by omega) S O fun ns j cU hj eJ S O => ?_
   refine dB S O fun dw S O => ?_
   exact ig hF (by omega) S O fun ns j dw hj eJ S O => dV S O
 | false =>
   simp only [aX]
   rw [if_neg (by rw [hb]; simp)] at O
   refine Jx A1.box hi fun b2 bN gK A2 => ?_
   replace O := O.fp A2
   cases b2 with
   | true =>
     simp only [bm]
     rw [if_pos gK] at O
     refine fo A2.box hi fun k bN S => ?_
     refine yy S gK fun cC S => dB S O fun cC S O => ?_
     refine ig hF (by omega) S O fun ns j dw hj eJ S O => dB S O fun _ S O => dB S O fun _ S O => ?_
     refine jr S (C6 S.hi) (rk S.hi) O fun ns j dw hj eJ S O => dB S O fun _ S O => ?_
     exact ig hF (by omega) S O fun ns j dw hj eJ S O => dB S O fun _ S O => dV S O
   | false =>
     simp only [aX]
     rw [if_neg (by rw [gK]; simp)] at O
     exact yx (B.term fu (cA _) i hi (by omega)) A2.box O
end
end Go.Rip
namespace Go.Rip
open Go.Proofs Go.RowKit
theorem lT {U : St} {b : Nat} {ks vs : List AV} : (U.set b (.mp ks vs)).mp b = some (ks, vs) := by simp [St.mp, dM]
theorem Hj {U : St} {b : Nat} {ks vs : List AV} : (U.new b (.mp ks vs)).mp b = some (ks, vs) := by simp [St.mp, lE]
theorem E6 {U ad : St} {b : Nat} (h : ad.live b = U.live b) : ad.mp b = U.mp b := by simp [St.mp, h]
theorem cF.mp {U ad : St} {b : Nat} {x : List AV × List AV} (h : cF U ad) (k : U.mp b = some x) : ad.mp b = some x := by
 cases e : U.live b with
 | none => simp [St.mp, e] at k
 | some y => rw [E6 ((h b y e).trans e.symm)]; exact k
theorem qY {C : bQ} {U : St} {K' : AV -> St -> Prop} {Kp : AV -> St -> Prop} {m : Nat} {ks vs ks' vs' : List AV} {s : aW} {v : AV} {t : TypeId} (h : U.mp m = some (ks, vs)) (hf : iv .s (.str s) ks 0 = some none) (hi : ep (.str s) v ks vs = (ks', vs')) :
 (gk (some (.s, t)) (.mp m) (.str s) v U).wp C U K' Kp = K' (.aL []) (U.set m (.mp ks' vs')) := by
 simp only [gk, h, hf, mq, hi]; rfl
def nq : List (aW × Int) := [(oe, 32), (fH, 28), (kg, 30), (mI, 31), (iW, 29), (fl, 27)]
theorem NF (s : aW) {U : St} {m : Nat} (h : U.mp m = some (nq.map fun p => .str p.1, nq.map fun p => .int .u8 p.2)) : ez (some (.s, 5)) (some (AV.int .u8 0)) (.mp m) (.str s) true U = .val (.aL [.int .u8 (match nq.find? (fun p => p.1 = s) with | some p => p.2 | none => 0), .bool (nq.find? (fun p => p.1 = s)).isSome]) := by
 have := pD s (.int .u8 0) (nq.map fun p => (p.1, AV.int .u8 p.2))
 rw [List.map_map, List.map_map, List.find?_map] at this
 simp only [ez, jb, mq, h]
 rw [show (nq.map fun p => AV.str p.1) = List.map ((fun p : aW × AV => AV.str p.1) ∘ fun p => (p.1, AV.int .u8 p.2)) nq from rfl, show (nq.map fun p => AV.int .u8 p.2) = List.map ((fun p : aW × AV => p.2) ∘ fun p => (p.1, AV.int .u8 p.2)) nq from rfl, this]
 have e : ((fun p : aW × AV => decide (p.1 = s)) ∘ fun p : aW × Int => (p.1, AV.int .u8 p.2)) = fun p => decide (p.1 = s) := rfl
 rw [e]
 cases nq.find? fun p => decide (p.1 = s) <;> rfl
section
variable {X : Rx} {az U : St} {r k i : Nat} {kind : Int} {text : aW} {n m at_ : Int} {l : List Nd} {R : cm -> St -> Prop} {K' : AV -> St -> Prop} {Kp : AV -> St -> Prop} {w : aW}
theorem NG {fu : Nat} (B : Below X fu) (hi : i <= X.L.length) (he : 40 * (X.L.length - i) + 1 <= fu + 1) : Ct X 252 i (rj X.L X.E (fu + 1) i) := by
 intro r U R hr O
 refine Jl ?_
 unfold Jk
 have hs := X.small
 rw [lq]
 intro mm U0
 have e1 : cF U (U.new mm (.mp [] [])) := (cF.refl U).new U0
 have hn := U0.1
 rw [show NV.at mm .mp = AV.mp mm from rfl]
 generalize KE : U.new mm (.mp [] []) = bM at e1 ⊢
 have m1 : bM.mp mm = some ([], []) := by rw [<- KE]; exact Hj
 rw [qY (ks' := [.str fl]) (vs' := [.int .u8 27]) m1 rfl rfl]
 rw [qY (ks' := [.str fH, .str fl]) (vs' := [.int .u8 28, .int .u8 27]) lT rfl rfl]
 rw [qY (ks' := [.str fH, .str iW, .str fl]) (vs' := [.int .u8 28, .int .u8 29, .int .u8 27]) lT rfl rfl]
 rw [qY (ks' := [.str fH, .str kg, .str iW, .str fl]) (vs' := [.int .u8 28, .int .u8 30, .int .u8 29, .int .u8 27]) lT rfl rfl]
 rw [qY (ks' := [.str fH, .str kg, .str mI, .str iW, .str fl]) (vs' := [.int .u8 28, .int .u8 30, .int .u8 31, .int .u8 29, .int .u8 27]) lT rfl rfl]
 rw [qY (ks' := [.str oe, .str fH, .str kg, .str mI, .str iW, .str fl]) (vs' := [.int .u8 32, .int .u8 28, .int .u8 30, .int .u8 31, .int .u8 29, .int .u8 27]) lT rfl rfl]
 have e2 := (((((e1.set (x := .mp [.str fl] [.int .u8 27]) hn).set (x := .mp [.str fH, .str fl] [.int .u8 28, .int .u8 27]) hn).set (x := .mp [.str fH, .str iW, .str fl] [.int .u8 28, .int .u8 29, .int .u8 27]) hn).set (x := .mp [.str fH, .str kg, .str iW, .str fl] [.int .u8 28, .int .u8 30, .int .u8 29, .int .u8 27]) hn).set (x := .mp [.str fH, .str kg, .str mI, .str iW, .str fl] [.int .u8 28, .int .u8 30, .int .u8 31, .int .u8 29, .int .u8 27]) hn).set (x := .mp [.str oe, .str fH, .str kg, .str mI, .str iW, .str fl] [.int .u8 32, .int .u8 28, .int .u8 30, .int .u8 31, .int .u8 29, .int .u8 27]) hn
 generalize KF : ((((((bM.set mm (.mp [.str fl] [.int .u8 27])).set mm _).set mm _).set mm _).set mm _).set mm _) = bN at e2 ⊢
 have m2 : bN.mp mm = some (nq.map fun p => .str p.1, nq.map fun p => .int .u8 p.2) := by rw [<- KF]; exact lT
 have mh := e2.bA hr
 refine DT mh hi fun cC e3 => ?_
 simp only [bB, NF _ (e3.mp m2), ag, bP, List.drop, bD]
 have A3 : ef r (rd X i) U cC := .nQ hr (e2.trans e3)
 replace O := O.fp A3
 have hw : ∀ w : aW, w ≠ [] -> bW X.L i w = decide (w = mV X.L[i]?) := fun w h => by rw [zd h]; simp [eq_comm]
 rw [rj, hw fl (by decide), hw fH (by decide), hw iW (by decide), hw kg (by decide), hw mI (by decide), hw oe (by decide)] at O
 simp only [dp] at O
 cases Dj : nq.find? fun p => p.1 = mV X.L[i]? with
 | some p =>
   simp only [Option.isSome_some, bm]
   have hp : p ∈ nq := List.mem_of_find?_eq_some Dj
   have Mz : p.1 = mV X.L[i]? := by simpa using List.find?_some Dj
   have bX : p.1 ≠ [] := by
    have : ∀ p ∈ nq, p.1 ≠ [] := by decide
    exact this p hp
   have aH : i < X.L.length := cG (w := p.1) (by rw [hw _ bX, Mz]; simp)
   refine fo A3.box hi fun k cU S => ?_
   simp only [cH, ag, aU, ck]
   refine Jw S aH fun dw S => ?_
   intro j hj
   simp only [bf, ag, aT, aI, mA, bT]
   rw [<- Mz] at O
   simp only [nq, dD, List.not_mem_nil, or_false] at hp
   have t1 : (oe = fl) = False := by simp; decide
   rcases hp with rfl | rfl | rfl | rfl | rfl | rfl
   · simp (decide := true) only [if_false, if_true] at O
     simp (decide := true) [bm]
     exact lX S O fun x _ S O => lY S fun _ S => hj _ _ (dV S O)
   · simp (decide := true) only [if_false, if_true] at O
     simp (decide := true) [aX]
     exact hj _ _ (dV S O)
   · simp (decide := true) only [if_false, if_true] at O
     simp (decide := true) [aX]
     exact hj _ _ (dV S O)
   · simp (decide := true) only [if_false, if_true] at O
     simp (decide := true) [bm]
     exact lX S O fun x _ S O => lY S fun _ S => hj _ _ (dV S O)
   · simp (decide := true) only [if_false, if_true] at O
     simp (decide := true) [aX]
     exact hj _ _ (dV S O)
   · simp (decide := true) only [if_false, if_true] at O
     simp (decide := true) [aX]
     exact hj _ _ (dV S O)
 | none =>
   simp only [Option.isSome_none, aX]
   have fB : ∀ w ∈ nq.map (·.1), ¬ w = mV X.L[i]? := fun w hw e => by
    rw [List.find?_eq_none] at Dj
    obtain ⟨p, hp, rfl⟩ := List.mem_map.1 hw
    simpa [e] using Dj p hp
   rw [if_neg (fB _ (by decide)), if_neg (fB _ (by decide)), if_neg (fB _ (by decide)), if_neg (fB _ (by decide)), if_neg (fB _ (by decide)), if_neg (fB _ (by decide))] at O
   refine Bv A3.box hi og (fun hb cU A4 => ?_) (fun hb cU e4 => ?_)
   · simp only [bB, bm]
     rw [if_pos hb] at O
     have aH := cG hb
     replace O := O.fp A4
     have g2 := (x5 (L := X.L) (E := X.E) fu).1 (i + 1) aH (by omega)
     refine B.term fu (cA _) (i + 1) aH (by omega) r cU _ A4.box ⟨fun ns j e hj a ad hk A => ?_, fun j e ad A => O.bad j (by rw [e]; rfl) ad A⟩
     rw [e] at O
     refine LI A.box hj (Out.fp O A) fun dw X1 A5 O => ?_
     exact aj.mk (O.ok _ _ rfl X1 a dw hk ⟨A5.box, gb.refl _ _⟩)
   · simp only [bB, aX]
     rw [if_neg (by rw [hb]; simp)] at O
     have A4 : ef r (rd X i) cC cU := .nQ A3.box e4
     replace O := O.fp A4
     refine lI A4.box hi 0 (by omega) fun dw e5 => ?_
     rw [Nat.add_zero]
     have A5 : ef r (rd X i) cU dw := .nQ A4.box e5
     replace O := O.fp A5
     obtain ⟨kd, s, a, e, hm⟩ := pM X.L[i]?
     rw [e]
     simp only [bB, Ef, List.drop, bD, bf, ag, br]
     have er : pX X.L i 2 = true ↔ kd = 2 := by
      refine Iff.trans ?_ (hm 2 (by omega)).symm
      unfold pX
      cases ht : X.L[i]? with
      | none => simp
      | some t =>
        rw [ht] at e; simp only [mL, lk, List.cons.injEq, AV.str.injEq, true_and] at e
        simp [e.2.1]
     refine ⟨fun h2 => ?_, fun h2 => ?_⟩
     · rw [if_pos (er.2 h2)] at O
       refine fo A5.box hi fun k nD S => ?_
       simp only [cH, ag, aU, ck]
       exact ny S O fun x _ S O => Fx S fun _ S => dV S O
     · rw [if_neg (fun h => h2 (er.1 h))] at O
       refine fo A5.box hi fun k nD S => ?_
       simp only [cH, ag, aU, ck]
       refine lX S O fun x _ S O => lY S fun _ S => ?_
       intro j hj
       refine xl S (fun hw l8 S => ?_) fun hw l8 S => ?_
       · simp only [bm]
         rw [if_pos hw] at O
         have hh := S.hi
         refine Oy S fun _ S => NC B (by omega) S O fun ns j2 zB oG x9 S O => ?_
         exact dB S O fun _ S O => hj _ _ (dV S O)
       · simp only [aX]
         rw [if_neg (by rw [hw]; simp)] at O
         exact hj _ _ (dV S O)
end
end Go.Rip
namespace Go.Rip
open Go.Proofs Go.RowKit
section
variable {X : Rx} {az U : St} {r k i : Nat} {kind : Int} {text : aW} {n m at_ : Int} {l : List Nd} {R : cm -> St -> Prop} {K' : AV -> St -> Prop} {Kp : AV -> St -> Prop} {w : aW}
theorem Ox {a : AV} {ns : List Nd} (S : Sk X az r k i kind text n m at_ [] U) (hi : 1 <= i) (hk : dq false [a] ns) (h : ∀ ad, Sk X az r k i kind text n m at_ ns ad -> K' (.box k 0) ad) :
 (aD (some (87, 1)) (some [AV.aR]) 1 false [(0, a)]).wp K U (fun v U => ae K 103 [.box k 0, v] U (al K' (aa R))) (aa R) :=
 BZ S (fun ks h1 h2 h3 => ⟨ks, h1, h2, by rw [h2.ne_nil rfl rfl]; simpa using hi⟩) hk fun ad S => h ad (by simpa using S)
theorem Kk {U : St} {v : AV} {e sz n : Nat} {l : List AV} (h : Grow U v e sz n l) : bZ (some false) v = .val (.int .i64 n) := by
 rcases h with ⟨rfl, rfl, rfl⟩ | ⟨τ, rfl, _⟩ <;> rfl
theorem OA {fu : Nat} (B : Below X fu) (hi : i <= X.L.length) (he : 40 * (X.L.length - i) + 11 <= fu + 1) : Ct X 109 i (se X.L X.E (fu + 1) i) := by
 intro r U R hr O
 refine HR ?_
 unfold HQ
 have hs := X.small
 rw [se] at O
 have g := (x5 (L := X.L) (E := X.E) fu).2.2.1 i hi (by omega)
 refine B.first fu (cA _) i hi (by omega) r U _ hr ⟨fun ns j e hj a bM hk A1 => ?_, fun j e ad A => O.bad j (by rw [e]; rfl) ad A⟩
 rw [e] at O g
 have eJ : i < j := g.1
 have O1 : Out X r bM R (vV X.L X.E fu (dR X.L X.E j) ns 1 j) := Out.fp O A1
 clear O e g
 refine fo A1.box hj fun k bN S => ?_
 refine Ox S (by omega) hk fun cC S => ?_
 intro jj uT
 have fin : ∀ (acc : List Nd) (many q : Nat) (ad : St), Sk X bM r k q 9 [] 0 0 (dR X.L X.E j) acc ad -> (∃ ks, dq true ks acc /\ ks.length = many) -> (many = 1 -> acc = ns) -> Out X r bM R (.ok (if many = 1 then acc else node 9 [] 0 0 (dR X.L X.E j) acc) q) -> jj a (.box k 0) ad := by
  intro acc many q ad S ⟨Vj, X6, qA⟩ h1 O
  refine uT _ _ _ ?_
  have Yq := S.hi
  have Xu := S.A
  obtain ⟨ks, M, X9, hle⟩ := S.M
  have hl : ks.length = many := (X9.count X6).trans qA
  obtain ⟨kv, b1, b2, b3, b4⟩ := M.box
  simp only [cH, ag, aU, ck, eK b1, py, List.drop, bD, Kk b2, bf, br, hl]
  refine ⟨fun h => ?_, fun h => ?_⟩
  · have h : many = 1 := by omega
    rw [if_pos h] at O
    have := h1 h
    subst this
    exact aj.mk (O.ok _ _ rfl Yq a ad hk Xu)
  · rw [if_neg (by omega)] at O
    exact dV S O
 refine ⟨fun mm v0 v3 v4 ad => ∃ acc many q f', mm = X.L.length - q /\ v0 = .box r 0 /\ v3 = a /\ v4 = .box k 0 /\ i < q /\ 40 * (X.L.length - q) + 1 <= f' /\ f' <= fu /\ Sk X bM r k q 9 [] 0 0 (dR X.L X.E j) acc ad /\ (∃ ks, dq true ks acc /\ ks.length = many) /\ (many = 1 -> acc = ns) /\ 1 <= many /\ Out X r bM R (vV X.L X.E f' (dR X.L X.E j) acc many q),
  ⟨_, ns, 1, j, fu, rfl, rfl, rfl, rfl, eJ, by omega, cA _, S, ⟨[a], hk.one, rfl⟩, fun _ => rfl, cA _, O1⟩, ?_⟩
 clear O1 S eJ
 rintro mm v0 v3 v4 cU ⟨acc, many, q, f', rfl, rfl, rfl, rfl, ZJ, Ml, Qs, S, iD, Ds, Ms, O⟩
 cases f' with
 | zero => omega
 | succ f' =>
   rw [vV] at O
   have hq := S.hi
   refine RS S fun b dw hb S => ?_
   cases b with
   | false =>
     simp only [aX]
     rw [if_neg (by rw [hb]; simp)] at O
     exact fin acc many q dw S iD Ds O
   | true =>
     simp only [bm]
     have aH := cG hb
     refine lI S.A.box hq 1 (by omega) fun nD e6 => ?_
     obtain ⟨kd, s, at', e, hm⟩ := pM X.L[q + 1]?
     have yb : kd = 0 ↔ X.L.length <= q + 1 := by
      cases ht : X.L[q + 1]? with
      | none =>
        rw [ht] at e; simp only [mL, List.cons.injEq, AV.int.injEq, true_and] at e
        rw [List.getElem?_eq_none_iff] at ht
        exact ⟨fun _ => ht, fun _ => e.1.symm⟩
      | some t =>
        rw [ht] at e; simp only [mL, lk, List.cons.injEq, AV.int.injEq, true_and] at e
        have := (cT.1 ht).1
        have hk := (X.ok t (fw ht)).cases
        constructor
        · intro h; omega
        · intro h; omega
     have Qg := Cm X.L[q + 1]?
     rw [Ob] at Qg
     rw [e] at Qg ⊢
     simp only [bB, lq]
     intro b2 gK
     have e7 := e6.new (x := .box [AV.int .u8 0, AV.str [], AV.int .i64 0]) gK
     rw [show NV.at b2 .box = AV.box b2 0 from rfl, dh aN]
     refine ⟨⟨rfl, rfl, by simp⟩, ?_⟩
     have e8 := e7.set (x := .box (aB [AV.int .u8 0, AV.str [], AV.int .i64 0] 0 (au (.agg [.int .u8 kd, .str s, .int .i64 at'])))) (e6.fresh gK.1)
     generalize kZ : (nD.new b2 (.box [AV.int .u8 0, AV.str [], AV.int .i64 0])).set b2 (.box (aB [AV.int .u8 0, AV.str [], AV.int .i64 0] 0 (au (.agg [.int .u8 kd, .str s, .int .i64 at'])))) = zB at e8 ⊢
     have nO : zB.box b2 = some [.int .u8 kd, .str s, .int .i64 at'] := by rw [<- kZ, aZ]; rfl
     replace S := S.fp (.nQ S.A.box e8) hq (cA _)
     simp only [aU, ag, eK nO, List.drop, bD, ck, bf, aT, aI]
     have stop : ¬ (q + 1 < X.L.length /\ Bm X.L (q + 1) = false) -> jj v3 (.box k 0) zB := fun hn => by
      rw [if_neg (fun h => hn h.2)] at O
      exact fin acc many q zB S iD Ds O
     by_cases h0 : kd = 0
     · simp only [h0, cV, show (true == false) = false from rfl, bS, aG, if_true, ag, bm]
       exact stop (fun h => by have := yb.1 h0; omega)
     · simp only [h0, db, fC, bT, w9 nO, BL, j6, aG, bl, if_false, ag]
       refine ⟨by simp, _, Qg, ?_⟩
       cases hit : Bm X.L (q + 1) with
       | true => simp only [bm]; exact stop (fun h => by rw [hit] at h; cases h.2)
       | false =>
         simp only [aX]
         have AW : q + 1 < X.L.length := by
          rcases ga (q + 1) X.L.length with h | h
          · exact h
          · exact absurd (yb.2 h) h0
         rw [if_pos ⟨hb, AW, hit⟩] at O
         refine yy S hb fun nT S => ?_
         have hF : eY X f' q := fun j hj Ys => ⟨B.first f' (by omega) j hj (by omega), (x5 f').2.2.1 j hj (by omega)⟩
         have Qj : ∀ DH a2, dq false [a2] DH -> ∃ ks, dq true ks (acc ++ DH) /\ ks.length = many + 1 := fun DH a2 h => by
          obtain ⟨ks, h1, h2⟩ := iD
          exact ⟨ks ++ [a2], h1.snoc h, by simp [h2]⟩
         obtain ⟨g1, g2⟩ := hF (q + 1) aH (by omega)
         refine g1 r nT _ S.A.box ⟨fun DH j2 e oG a2 so er A2 => ?_, fun j e ad A => O.bad j (by rw [e]; rfl) ad (S.A.trans A)⟩
         rw [e] at g2 O
         have Ys : q + 1 < j2 := g2.1
         obtain ⟨ks, M1, M2, M3⟩ := S.M
         have S2 := S.fp A2 oG (by omega)
         refine BZ S2 (fun _ _ _ _ => ⟨ks, M1.fp A2 S.A.box, M2, by omega⟩) er fun W5 S3 => ?_
         refine ⟨_, ?_, acc ++ DH, many + 1, j2, f', rfl, rfl, rfl, rfl, by omega, by omega, by omega, S3, Qj DH a2 er, fun h => by omega, by omega, O⟩
         omega
end
theorem below : ∀ (X : Rx) (fu : Nat), Below X fu := fun X fu => by
 induction fu with
 | zero => constructor <;> intros <;> omega
 | succ fu B =>
   have st : ∀ {f' : Nat}, f' <= fu + 1 -> f' <= fu \/ f' = fu + 1 := fun h => by omega
   refine ⟨fun f' hf j hj he => ?_, fun f' hf j hj he => ?_, fun f' hf j lev hj h2 h9 he => ?_, fun f' hf j hj he => ?_, fun f' hf j hj he => ?_⟩
   · rcases st hf with h | rfl
     · exact B.term f' h j hj he
     · exact OA B hj he
   · rcases st hf with h | rfl
     · exact B.first f' h j hj he
     · exact Kd hj (B.Gk (by omega)) (B.oper fu (cA _) j 2 hj (by omega) (by omega) (by omega))
   · rcases st hf with h | rfl
     · exact B.oper f' h j lev hj h2 h9 he
     · exact Om hj h2 h9 he (fun h => B.atom fu (cA _) j hj (by omega)) B.ops
   · rcases st hf with h | rfl
     · exact B.atom f' h j hj he
     · exact NG B hj he
   · rcases st hf with h | rfl
     · exact B.arg f' h j hj he
     · exact PN B hj he
end Go.Rip
