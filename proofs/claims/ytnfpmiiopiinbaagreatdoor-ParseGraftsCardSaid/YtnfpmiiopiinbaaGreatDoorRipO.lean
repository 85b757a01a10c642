/- Lemmas for the proof: no conditions. -/
import Derived.Test.YtnfpmiiopiinbaaGreatDoorRipZz
import Derived.Test.YtnfpmiiopiinbaaGreatDoorRipN
set_option linter.unusedVariables false
set_option linter.unusedSimpArgs false
set_option linter.loopingSimpArgs false
namespace Go.Rip
open Go.Proofs Go.RowKit
section
variable {X : Rx} {i : Nat}
theorem Nq {U : St} {r : Nat} {w : bh} {K' : AV -> St -> Prop} {Kp : AV -> St -> Prop} (hr : U.box r = some (rd X i)) (hi : i <= X.L.length) (h : ∀ b ae, cP X.L i w = b -> fg r (rd X i) U ae -> K' (.bool b) ae) :
 (aO (some (9, 1)) (some [AV.str []]) 1 false [(0, .str w)]).wp K U (fun v U => af K 105 [.box r 0, v] U (ax K' Kp)) Kp := by
 rw [fC]
 refine ⟨by omega, ?_⟩
 rw [eO (o := 0) (s := 1) rfl]
 refine ⟨⟨rfl, rfl, by simp [bK]⟩, ?_⟩
 rw [gM]
 refine ⟨rfl, ?_⟩
 refine HI (l := [w]) hr hi (by simp) fun bJ e1 => ?_
 exact h _ _ (by rw [xi]) (.p6 hr e1)
theorem Ba {U : St} {r : Nat} {R : cD -> St -> Prop} {f : FuncId} {p : PR (List Nd)} (C : Ct X f i p) (hr : U.box r = some (rd X i)) (O : Out X r U R p) : af K f [.box r 0] U (ax (fun v U => ak R v U) (aa R)) :=
 C r U _ hr ⟨fun ns j e hj a ae hk A => ak.mk (O.ok ns j e hj a ae hk A), O.bad⟩
theorem F0 (hi : i <= X.L.length) : Ct X 278 i (y7 X.L X.E i) := by
 intro r U R hr O
 refine Ni ?_
 unfold Nh
 refine gB hr hi fun k bJ S => ?_
 simp only [dw, ah, aV, cr]
 exact od S O fun x cJ S O => oe S fun dI S => fe S O
end
end Go.Rip
namespace Go.Rip
open Go.Proofs Go.RowKit
theorem HH {c : iQ} (o : Option Tk) (l : List bh) (hn : l.length <= 100000) (hc : closed (.vec l.length c (l.map .str)) = true) : Pure K 121 [.agg (oU o), .vec l.length c (l.map .str)] (.bool (sH o l)) := by
 refine Pure.of ?_ rfl (fun U => rfl) fun R hR => yx o l hn fun ae _ => hR ae
 have : closed (.agg (oU o)) = true := by cases o <;> rfl
 simp only [bV, this, hc, Bool.and_self]
section
variable {X : Rx} {aG U : St} {r k i : Nat} {kind : Int} {text : bh} {n m at_ : Int} {l : List Nd} {R : cD -> St -> Prop} {K' : AV -> St -> Prop} {Kp : AV -> St -> Prop} {w : bh} {f : FuncId}
def gl (X : Rx) (f i : Nat) : Prop := ∀ j, j <= X.L.length -> i < j -> Ct X 169 j (cE X.L X.E f j) /\ Gd X.L.length (j + 1) j (cE X.L X.E f j)
def At (X : Rx) (f : Nat) (fin : List Nd -> Nat -> PR (List Nd)) : List bh -> List Nd -> Nat -> PR (List Nd)
 | [], acc, i => fin acc i
 | w :: ws, acc, i => (cS X.L w i).bind fun _ j => (cE X.L X.E f j).bind fun a j => At X f fin ws (acc ++ a) j
theorem ED {fu i0 : Nat} (hF : gl X fu i0) {fin : List Nd -> Nat -> PR (List Nd)} (ws : List bh) (hw : ws.length <= 10) (BA : i0 <= i) (S : Sk X aG r k i kind text n m at_ l U) {ac : List Nd} (hac : ac = l) (O : Out X r aG R (At X fu fin ws ac i))
 (h : ∀ acc j ae, Sk X aG r k j kind text n m at_ acc ae -> Out X r aG R (fin acc j) -> ak R (.box k 0) ae) :
 cK 5 [.box r 0, .box k 0, .vec ws.length .full (ws.map .str), .int .i64 ws.length, .int .i64 0] U fun lp v0 v3 fl jh v10 U =>
 (aj .lss (BT.mk false false false none false) false v10 jh).wp K U (fun v11 U =>
 aq v11 (
  (aF (some (9, 1)) none fl v10).wp K U (fun v12 U =>
  (ao (some (false, 1)) v12 U).wp K U (fun bI U =>
  af K 102 [v0, bI] U (ax (fun cG U =>
  af K 169 [v0] U (ax (fun cH U =>
  (aO (some (87, 1)) (some [AV.a8]) 1 false [(0, cH)]).wp K U (fun v20 U =>
  af K 103 [v3, v20] U (ax (fun v21 U =>
  (aj .add (BT.mk false false false none false) true v10 (AV.int .i64 1)).wp K U (fun cm U =>
  lp v0 v3 fl jh cm U) (aa R)) (aa R))) (aa R)) (aa R))) (aa R))) (aa R)) (aa R)) (
  ak R v3 U)) (aa R) := by
 subst hac
 refine ⟨fun mm v0 v3 v8 v9 v10 ae => ∃ t acc j, t <= ws.length /\ mm = ws.length - t /\ v0 = .box r 0 /\ v3 = .box k 0 /\ v8 = .vec ws.length .full (ws.map .str) /\ v9 = .int .i64 ws.length /\ v10 = .int .i64 (t : Nat) /\ i0 <= j /\ Sk X aG r k j kind text n m at_ acc ae /\ Out X r aG R (At X fu fin (ws.drop t) acc j),
  ⟨_, 0, _, _, by omega, rfl, rfl, rfl, rfl, rfl, rfl, BA, S, O⟩, ?_⟩
 rintro mm v0 v3 v8 v9 v10 bJ ⟨t, acc, j, ht, rfl, rfl, rfl, rfl, rfl, rfl, fS, S, O⟩
 simp only [bg, ah, aY]
 refine ⟨fun aJ => ?_, fun fJ => ?_⟩
 · have aJ : t < ws.length := by omega
   have hd : (ws.map AV.str).drop (t * 1) = .str ws[t] :: (ws.map AV.str).drop (t + 1) := by
    rw [Nat.mul_one, gy (by simpa using aJ)]; simp
   have vg : ws.drop t = ws[t] :: ws.drop (t + 1) := gy aJ
   rw [vg] at O
   simp only [wR, dR, hd, mg, bM]
   refine ⟨by omega, ?_⟩
   unfold At at O
   refine eJ S O fun bP S O => ?_
   obtain ⟨g1, g2⟩ := hF _ S.hi (by omega)
   refine kP S g1 g2 O fun ns j2 cJ oR AM S O => ?_
   simp only [cg]
   refine ⟨aS (by omega) (by omega), ws.length - (t + 1), by omega, t + 1, _, _, aJ, rfl, rfl, rfl, rfl, rfl, rfl, by omega, S, O⟩
 · have : t = ws.length := by omega
   subst this
   rw [List.drop_length] at O
   exact h _ _ _ S O
theorem IQ {fu : Nat} (hi : i <= X.L.length) (hF : gl X fu i) : Ct X 158 i ((cS X.L yV i).bind fun _ j => (cE X.L X.E fu j).bind fun c j => (cS X.L tQ j).bind fun _ j => (cE X.L X.E fu j).bind fun a j => (cS X.L lf j).bind fun _ j => (cE X.L X.E fu j).bind fun b j => .ok (node 10 [] 0 0 (eX X.L X.E i) (c ++ a ++ b)) j) := by
 intro r U R hr O
 refine LP ?_
 unfold LO
 refine gB hr hi fun k bJ S => ?_
 rw [fC]
 refine ⟨by omega, ?_⟩
 rw [eO (o := 0) (s := 1) rfl]
 refine ⟨⟨rfl, rfl, by simp [bK]⟩, ?_⟩
 rw [eO (o := 1) (s := 1) rfl]
 refine ⟨⟨rfl, rfl, by simp [bK, aB]⟩, ?_⟩
 rw [eO (o := 2) (s := 1) rfl]
 refine ⟨⟨rfl, rfl, by simp [bK, aB]⟩, ?_⟩
 rw [gM]
 refine ⟨rfl, ?_⟩
 simp only [o3, ah]
 exact ED (fin := fun acc j => .ok (node 10 [] 0 0 (eX X.L X.E i) acc) j) hF [yV, tQ, lf] (by simp) (cX _) S rfl O fun acc j ae S O => fe S O
theorem Sa {fu : Nat} (hi : i <= X.L.length) (hF : gl X fu i) : Ct X 159 i ((cS X.L pj i).bind fun _ j => (cE X.L X.E fu j).bind fun a j => (cS X.L Bi j).bind fun _ j => (cE X.L X.E fu j).bind fun b j => .ok (node 11 [] 0 0 (eX X.L X.E i) (a ++ b)) j) := by
 intro r U R hr O
 refine LR ?_
 unfold LQ
 refine gB hr hi fun k bJ S => ?_
 rw [fC]
 refine ⟨by omega, ?_⟩
 rw [eO (o := 0) (s := 1) rfl]
 refine ⟨⟨rfl, rfl, by simp [bK]⟩, ?_⟩
 rw [eO (o := 1) (s := 1) rfl]
 refine ⟨⟨rfl, rfl, by simp [bK, aB]⟩, ?_⟩
 rw [gM]
 refine ⟨rfl, ?_⟩
 simp only [o3, ah]
 exact ED (fin := fun acc j => .ok (node 11 [] 0 0 (eX X.L X.E i) acc) j) hF [pj, Bi] (by simp) (cX _) S rfl O fun acc j ae S O => fe S O
theorem jN {fu i0 : Nat} {q : List Nd -> Nat -> PR (List Nd)} (hF : gl X fu i0) (h0 : i0 < i) (S : Sk X aG r k i kind text n m at_ l U) (O : Out X r aG R ((cE X.L X.E fu i).bind q))
 (h : ∀ ns j ae, j <= X.L.length -> i < j -> Sk X aG r k j kind text n m at_ (l ++ ns) ae -> Out X r aG R (q ns j) -> K' (.box k 0) ae) :
 af K 169 [.box r 0] U (ax (fun v U => (aO (some (87, 1)) (some [AV.a8]) 1 false [(0, v)]).wp K U (fun v U => af K 103 [.box k 0, v] U (ax K' (aa R))) (aa R)) (aa R)) :=
 kP S (hF _ S.hi h0).1 (hF _ S.hi h0).2 O h
theorem RS {fu : Nat} (hi : i <= X.L.length) (hF : gl X fu i) : Ct X 160 i ((cS X.L xB i).bind fun _ j => (jo X.L j).bind fun x j => (cS X.L xw j).bind fun _ j => (kJ X.L j).bind fun n j => (cS X.L da j).bind fun _ j => (kJ X.L j).bind fun m j => (cS X.L ry j).bind fun _ j => (cE X.L X.E fu j).bind fun a j => .ok (node 12 x n m (eX X.L X.E i) a) j) := by
 intro r U R hr O
 refine LU ?_
 unfold LS
 refine gB hr hi fun k bJ S => ?_
 simp only [dw, ah, aV, cr]
 refine eJ S O fun _ S O => od S O fun x _ S O => oe S fun _ S => eJ S O fun _ S O => pL S O fun _ _ S O => It S fun _ S => eJ S O fun _ S O => pL S O fun _ _ S O => abf S fun _ S => eJ S O fun _ S O => ?_
 exact jN hF (by omega) S O fun ns j dI hj fS S O => fe S O
theorem OJ {fu : Nat} (hi : i <= X.L.length) (hF : gl X fu i) : Ct X 161 i ((cS X.L qC i).bind fun _ j => (jo X.L j).bind fun x j => (cS X.L ry j).bind fun _ j => (cE X.L X.E fu j).bind fun a j => (cS X.L lf j).bind fun _ j => (cE X.L X.E fu j).bind fun b j => .ok (node 13 x 0 0 (eX X.L X.E i) (a ++ b)) j) := by
 intro r U R hr O
 refine LW ?_
 unfold LV
 refine gB hr hi fun k bJ S => ?_
 simp only [dw, ah, aV, cr]
 refine eJ S O fun _ S O => od S O fun x _ S O => oe S fun _ S => eJ S O fun _ S O => ?_
 refine jN hF (by omega) S O fun ns j dI hj fS S O => eJ S O fun _ S O => ?_
 exact jN hF (by omega) S O fun ns j dI hj fS S O => fe S O
theorem IS {fu : Nat} (hi : i <= X.L.length) (hF : gl X fu i) : Ct X 162 i ((cS X.L pg i).bind fun _ j => (cE X.L X.E fu j).bind fun a j => (cS X.L lf j).bind fun _ j => (cE X.L X.E fu j).bind fun b j => .ok (node 15 [] 0 0 (eX X.L X.E i) (a ++ b)) j) := by
 intro r U R hr O
 refine LY ?_
 unfold LX
 refine gB hr hi fun k bJ S => ?_
 refine eJ S O fun _ S O => ?_
 refine jN hF (by omega) S O fun ns j dI hj fS S O => eJ S O fun _ S O => ?_
 exact jN hF (by omega) S O fun ns j dI hj fS S O => fe S O
theorem Kf {fu : Nat} (hi : i <= X.L.length) (hF : gl X fu i) : Ct X 163 i ((cS X.L ph i).bind fun _ j => (jo X.L j).bind fun x j => (cS X.L da j).bind fun _ j => (kJ X.L j).bind fun n j => (cS X.L ry j).bind fun _ j => (cE X.L X.E fu j).bind fun a j => .ok (node 14 x n 0 (eX X.L X.E i) a) j) := by
 intro r U R hr O
 refine L0 ?_
 unfold LZ
 refine gB hr hi fun k bJ S => ?_
 simp only [dw, ah, aV, cr]
 refine eJ S O fun _ S O => od S O fun x _ S O => oe S fun _ S => eJ S O fun _ S O => pL S O fun _ _ S O => It S fun _ S => eJ S O fun _ S O => ?_
 exact jN hF (by omega) S O fun ns j dI hj fS S O => fe S O
end
end Go.Rip
namespace Go.Rip
open Go.Proofs Go.RowKit
def iv : List (bh × Nat) := [(pg, 162), (yV, 158), (qC, 161), (xB, 160), (ph, 163), (pj, 159)]
theorem Hj : td = .eR (iv.map fun p => .str p.1) (iv.map fun p => .func (.func p.2) [] []) := rfl
theorem rT (s : bh) (z : AV) : ∀ l : List (bh × AV), kH .s (.str s) z true (l.map fun p => .str p.1) (l.map fun p => p.2) = .val (.aR [match l.find? (fun p => p.1 = s) with | some p => p.2 | none => z, .bool (l.find? (fun p => p.1 = s)).isSome])
 | [] => rfl
 | p :: l => by
   simp only [dJ, kH, fL, List.find?_cons]
   by_cases h : s = p.1
   · subst h; simp
   · have h' : ¬ p.1 = s := fun e => h e.symm
     simp only [h', ct]
     rw [show (s == p.1) = false by simp [h]]
     simpa using rT s z l
theorem Hh (s : bh) (U : St) : fI (some (.s, 186)) (some AV.dh) td (.str s) true U = .val (.aR [match iv.find? (fun p => p.1 = s) with | some p => .func (.func p.2) [] [] | none => .dh, .bool (iv.find? (fun p => p.1 = s)).isSome]) := by
 rw [Hj]
 have := rT s .dh (iv.map fun p => (p.1, AV.func (.func p.2) [] []))
 simp only [fI, kD, ox]
 rw [List.map_map, List.map_map] at this
 rw [show (iv.map fun p => AV.str p.1) = List.map ((fun p : bh × AV => AV.str p.1) ∘ fun p => (p.1, AV.func (.func p.2) [] [])) iv from rfl, show (iv.map fun p => AV.func (.func p.2) [] []) = List.map ((fun p : bh × AV => p.2) ∘ fun p => (p.1, AV.func (.func p.2) [] [])) iv from rfl, this]
 congr 2
 rw [List.find?_map]
 have e : ((fun p : bh × AV => decide (p.1 = s)) ∘ fun p : bh × Nat => (p.1, AV.func (.func p.2) [] [])) = fun p => decide (p.1 = s) := rfl
 rw [e]
 cases iv.find? fun p => decide (p.1 = s) <;> rfl
theorem Fb (o : Option Tk) : Pure K 61 [.agg (oU o)] (.bool (sH o [nO, uZ, nN])) := by
 refine Pure.of ?_ rfl (fun U => rfl) fun R hR => ?_
 · cases o <;> rfl
 refine Pg ?_
 have ht : (oU o).length = 3 := by cases o <;> rfl
 unfold Q0
 rw [ff rfl]
 intro b hb
 rw [show ay (.agg (oU o)) = oU o from rfl, qq aN]
 refine ⟨by simp [ht], ?_⟩
 rw [fC]
 refine ⟨by omega, ?_⟩
 rw [eO (o := 0) (s := 1) rfl]
 refine ⟨⟨rfl, rfl, by simp [bK]⟩, ?_⟩
 rw [eO (o := 1) (s := 1) rfl]
 refine ⟨⟨rfl, rfl, by simp [bK, aB]⟩, ?_⟩
 rw [eO (o := 2) (s := 1) rfl]
 refine ⟨⟨rfl, rfl, by simp [bK, aB]⟩, ?_⟩
 rw [gM]
 refine ⟨rfl, ?_⟩
 rw [ez, o7 (by omega)]
 exact yx (c := .full) o [nO, uZ, nN] (by simp) fun ae _ => ak.mk (hR ae)
theorem Sj (L : List Tk) (i : Nat) : sH L[i]? [nO, uZ, nN] = DV L i := by
 unfold sH DV cP
 cases h : L[i]? with
 | none => rfl
 | some t =>
   simp only [h]
   cases hk : (t.k == 3 || t.k == 4) with
   | false => simp
   | true =>
     simp only [Bool.true_and]
     rw [lY]
     simp [or_assoc]
section
variable {X : Rx} {aG U : St} {r k i : Nat} {R : cD -> St -> Prop} {K' : AV -> St -> Prop} {Kp : AV -> St -> Prop} {f : FuncId}
theorem Xd {iq : FuncId} (he : eg K.P iq = true) {c : List AV} : (gp K.P (.func (.func iq) [] []) [.box r 0]).wp K U K' Kp = af K iq [.box r 0] U (ax K' Kp) := by
 simp [gp, he]
def Co (X : Rx) (i lev : Nat) (p : PR (List Nd)) : Prop := ∀ (r : Nat) (U : St) (R : cD -> St -> Prop), U.box r = some (rd X i) -> Out X r U R p -> af K 219 [.box r 0, .int .i64 (lev : Nat)] U R
theorem RY {s : bh} {p : bh × Nat} (h : iv.find? (fun p => p.1 = s) = some p) : p ∈ iv /\ p.1 = s := ⟨List.mem_of_find?_eq_some h, by simpa using List.find?_some h⟩
theorem Of {fu : Nat} (hi : i <= X.L.length) (hF : gl X fu i) (hO : Co X i 2 (kK X.L X.E fu 2 i)) : Ct X 169 i (cE X.L X.E (fu + 1) i) := by
 intro r U R hr O
 refine Me ?_
 unfold Md
 refine nL hr hi 0 (by omega) fun bJ e1 => ?_
 rw [Nat.add_zero]
 obtain ⟨kd, s, a, e, hm⟩ := si X.L[i]?
 rw [e]
 simp only [bA, mi]
 intro b hb
 have DE := e1.bj hr
 have e2 := e1.new (x := .box [AV.int .u8 0, AV.str [], AV.int .i64 0]) hb
 rw [show NV.at b .box = AV.box b 0 from rfl, cI aN]
 refine ⟨⟨rfl, rfl, by simp⟩, ?_⟩
 have e3 := e2.set (x := .box (aB [AV.int .u8 0, AV.str [], AV.int .i64 0] 0 (ay (.agg [.int .u8 kd, .str s, .int .i64 a])))) (e1.fresh hb.1)
 generalize lE : (bJ.new b (.box [AV.int .u8 0, AV.str [], AV.int .i64 0])).set b (.box (aB [AV.int .u8 0, AV.str [], AV.int .i64 0] 0 (ay (.agg [.int .u8 kd, .str s, .int .i64 a])))) = cJ at e3 ⊢
 have iD : cJ.box b = some [.int .u8 kd, .str s, .int .i64 a] := by rw [<- lE, aT]; rfl
 have xS := e3.bj hr
 have A3 : fg r (rd X i) U cJ := .p6 hr e3
 replace O := O.gm A3
 have fp : ∀ t, X.L[i]? = some t -> s = t.s /\ kd = t.k := fun t ht => by
  rw [ht] at e; simp only [oU, nh, List.cons.injEq, AV.str.injEq, AV.int.injEq, true_and] at e; exact ⟨e.2.1.symm, e.1.symm⟩
 simp only [dw, av, aV, lX xS, rd, List.drop, fM, cr, lX iD, Hh, cz, aI, aC, jB]
 have Zy : ∀ w ∈ iv.map (·.1), cP X.L i w = true -> kd = 3 /\ s = w := fun w hw h => by
  have : ∀ w ∈ iv.map (·.1), w ∈ kG := by decide
  obtain ⟨t, ht, hk, hs⟩ := R3 X.ok (this w hw) h
  obtain ⟨h1, h2⟩ := fp t ht
  exact ⟨by omega, h1.trans hs⟩
 have fin : (¬ (kd = 3 /\ s ∈ iv.map (·.1))) -> (∀ w ∈ iv.map (·.1), cP X.L i w = false) := fun h w hw => by
  cases hx : cP X.L i w with
  | false => rfl
  | true => obtain ⟨h1, h2⟩ := Zy w hw hx; exact absurd ⟨h1, h2 ▸ hw⟩ h
 by_cases hc : kd = 3 /\ s ∈ iv.map (·.1)
 · obtain ⟨h3, hs⟩ := hc
   obtain ⟨t, ht, hk, BG⟩ := (hm 3 (by omega)).1 h3
   subst h3
   have zG : cP X.L i s = true := R4 ht (.inl hk) BG
   have bW : ∀ w ∈ iv.map (·.1), w ≠ s -> ¬ (cP X.L i w = true) := fun w hw hn h => hn (Zy w hw h).2.symm
   have key : ∃ iq, iv.find? (fun p => p.1 = s) = some (s, iq) /\ eg K.P iq = true /\ ∃ p, Ct X iq i p /\ cE X.L X.E (fu + 1) i = p := by
    have hnd : cS X.L s i = .ok () (i + 1) := by simp [cS, zG]
    have dL : s ∈ iv.map (·.1) := hs
    simp only [iv, dJ, hC, dS, List.not_mem_nil, or_false] at hs
    rcases hs with rfl | rfl | rfl | rfl | rfl | rfl
    · exact ⟨162, rfl, by kernel_rfl, _, IS hi hF, by rw [cE, if_neg (bW _ (by decide) (by decide)), if_neg (bW _ (by decide) (by decide)), if_neg (bW _ (by decide) (by decide)), if_neg (bW _ (by decide) (by decide)), if_pos zG, hnd]; rfl⟩
    · exact ⟨158, rfl, by kernel_rfl, _, IQ hi hF, by rw [cE, if_pos zG, hnd]; rfl⟩
    · exact ⟨161, rfl, by kernel_rfl, _, OJ hi hF, by rw [cE, if_neg (bW _ (by decide) (by decide)), if_neg (bW _ (by decide) (by decide)), if_neg (bW _ (by decide) (by decide)), if_pos zG, hnd]; rfl⟩
    · exact ⟨160, rfl, by kernel_rfl, _, RS hi hF, by rw [cE, if_neg (bW _ (by decide) (by decide)), if_neg (bW _ (by decide) (by decide)), if_pos zG, hnd]; rfl⟩
    · exact ⟨163, rfl, by kernel_rfl, _, Kf hi hF, by rw [cE, if_neg (bW _ (by decide) (by decide)), if_neg (bW _ (by decide) (by decide)), if_neg (bW _ (by decide) (by decide)), if_neg (bW _ (by decide) (by decide)), if_neg (bW _ (by decide) (by decide)), if_pos zG, hnd]; rfl⟩
    · exact ⟨159, rfl, by kernel_rfl, _, Sa hi hF, by rw [cE, if_neg (bW _ (by decide) (by decide)), if_pos zG, hnd]; rfl⟩
   obtain ⟨iq, h1, h2, p, h3, h4⟩ := key
   rw [h1]
   simp only [Option.isSome_some, dG, bl, av, ga, lX iD, List.drop, fM, aX, bT, aA, if_true, ah, bf]
   rw [Xd h2 (c := [])]
   rw [h4] at O
   exact Ba h3 xS O
 · have hw := fin hc
   have hf : ∀ w ∈ iv.map (·.1), ¬ (cP X.L i w = true) := fun w h => by rw [hw w h]; simp
   rw [cE, if_neg (hf _ (by decide)), if_neg (hf _ (by decide)), if_neg (hf _ (by decide)), if_neg (hf _ (by decide)), if_neg (hf _ (by decide)), if_neg (hf _ (by decide))] at O
   have aah : ∀ (c : Option (bh × Nat)) (A B : Prop), iv.find? (fun p => p.1 = s) = c -> (c.isSome = true -> kd ≠ 3) := fun c A B h1 h2 h3 => by
    cases c with
    | none => cases h2
    | some p => exact hc ⟨h3, by obtain ⟨k1, k2⟩ := RY h1; exact List.mem_map.2 ⟨p, k1, k2⟩⟩
   have sel : ∀ (V : AV) (A B : Prop), B -> aq (.bool false) A B := fun _ _ _ hB => by rw [aW]; exact hB
   have rest : gG 2
    (fun v0 fq U =>
      aq fq (
    af K 99 [v0, (AV.int .u8 16)] U (ax (fun eY U =>
    af K 101 [v0] U (ax (fun gQ U =>
    (bF eY).wp K U (fun iH U =>
    (ag (some 0) iH).wp K U (fun dY U =>
    (ag (some 1) dY).wp K U (fun oM U =>
    (aL (some (false, 1)) oM gQ U).wp K U (fun _ U =>
    af K 102 [v0, (AV.str da)] U (ax (fun v46 U =>
    af K 169 [v0] U (ax (fun v49 U =>
    (aO (some (87, 1)) (some [AV.a8]) 1 false [(0, v49)]).wp K U (fun ku U =>
    af K 103 [eY, ku] U (ax (fun v51 U =>
    ak R v51 U) (aa R))) (aa R)) (aa R))) (aa R))) (aa R)) (aa R)) (aa R)) (aa R)) (aa R))) (aa R))) (
    af K 219 [v0, (AV.int .i64 2)] U (ax (fun v53 U =>
    ak R v53 U) (aa R)))) (fun j =>
     au.wp K cJ
      (fun cC U =>
        au.wp K U
         (fun v30 U =>
           ad K (ar v30 true) (au.val (AV.box r 0)) fun fG =>
            aq (ar v30 true)
             (af K 167 [fG, AV.int IntKind.i64 1] U
               (ax
                 (fun dP U =>
                   ad K (ar v30 true)
                    (aO (some (9, 1)) (some [AV.str []]) 1 false [(0, AV.str da)]) fun eI =>
                    ad K (ar v30 true) (au.enter 121 [dP, eI]) fun er =>
                     au.wp K U (fun pz U => j (AV.box r 0) pz U) (aa R)
                      (aQ v30 er (AV.bool false)))
                 (aa R)))
             (ad K (ar v30 true)
               (aO (some (9, 1)) (some [AV.str []]) 1 false [(0, AV.str da)]) fun Iw =>
               ad K (ar v30 true) (au.enter 121 [AV.aR [], Iw]) fun Ai =>
                au.wp K U (fun pz U => j (AV.box r 0) pz U) (aa R)
                 (aQ v30 Ai (AV.bool false))))
         (aa R)
         (aj BinOp.eql { b := false, i := false, p := false, f := none, s := false } true cC (AV.int IntKind.u8 1)))
      (aa R) (ao (some (false, 1)) (AV.box b 0) cJ)) := by
    intro j hj
    have yes : sD X.L i 1 = true -> cP X.L (i + 1) da = true -> ∀ cu, fg r (rd X i) cJ cu -> j (.box r 0) (.bool true) cu := fun g1 g2 cu A4 => by
     refine hj _ _ _ ?_
     rw [if_pos ⟨g1, g2⟩] at O
     replace O := O.gm A4
     rw [bf]
     refine gB A4.box hi fun k dI S => ?_
     simp only [dw, ah, aV, cr]
     refine od S O fun x _ S O => oe S fun _ S => eJ S O fun _ S O => ?_
     exact jN hF (by omega) S O fun ns j dI hj fS S O => fe S O
    have no : ¬ (sD X.L i 1 = true /\ cP X.L (i + 1) da = true) -> ∀ cu, fg r (rd X i) cJ cu -> j (.box r 0) (.bool false) cu := fun g cu A4 => by
     refine hj _ _ _ ?_
     rw [if_neg g] at O
     replace O := O.gm A4
     rw [aW]
     exact hO r cu _ A4.box ⟨fun ns j e hj a ae hk A => ak.mk (O.ok ns j e hj a ae hk A), O.bad⟩
    have nY : sD X.L i 1 = decide (kd = 1) := by
     unfold sD
     cases ht : X.L[i]? with
     | none => rw [ht] at e; simp only [oU, List.cons.injEq, AV.int.injEq, true_and] at e; simp [<- e.1]
     | some t => obtain ⟨_, h2⟩ := fp t ht; rw [h2]; rw [lY]; simp; omega
    rw [fz iD]
    simp only [List.drop, bM, aX, ah, aI]
    by_cases h1 : kd = 1
    · simp only [h1, bT, dG, aC, bl, av, ga, bf]
      refine nL xS hi 1 (by omega) fun cu e4 => ?_
      simp only [bA]
      rw [uK]
      refine ⟨by omega, ?_⟩
      rw [pK (o := 0) (s := 1) rfl]
      refine ⟨⟨rfl, rfl, by simp [bK]⟩, ?_⟩
      rw [xj]
      refine ⟨rfl, _, HH (c := .full) (X.L[i + 1]?) [da] (by simp) rfl, ?_⟩
      rw [xi]
      simp only [aA, if_true, ah]
      cases ZR : cP X.L (i + 1) da with
      | true => exact yes (by rw [nY]; simp [h1]) ZR _ (.p6 xS e4)
      | false => exact no (by rw [ZR]; simp) _ (.p6 xS e4)
    · have Jk : (decide (kd = 1) == true) = false := by simp [h1]
      simp only [Jk, aC, a7, aW, h1, ct, aA, bo, if_false, ah]
      simp only [beq_true, a7, aW]
      exact no (by rw [nY]; simp [h1]) _ ⟨xS, il.refl _ _⟩
   cases qM : iv.find? (fun p => p.1 = s) with
   | none =>
     simp only [Option.isSome_none, a7, show (false == true) = false from rfl, aA, bo, if_false, ah, aW]
     exact rest
   | some p =>
     have h3 : ¬ kd = 3 := aah _ True True qM rfl
     simp only [Option.isSome_some, dG, bl, av, ga, lX iD, List.drop, fM, aX, h3, ct, aA, if_true, ah, aW]
     exact rest
end
end Go.Rip
namespace Go.Rip
open Go.Proofs Go.RowKit
def tA (lev : Nat) : List (bh × Int) :=
 if lev = 2 then [(EZ, 17)] else if lev = 3 then [(Ap, 18)] else if lev = 5 then [(xx, 21), (xy, 20)] else if lev = 6 then [(xr, 22), (xv, 23)] else if lev = 7 then [(xq, 24)] else if lev = 8 then [(EW, 25)] else []
def QL (lev : Nat) : AV := .eR ((tA lev).map fun p => .str p.1) ((tA lev).map fun p => .int .u8 p.2)
theorem OS (lev : Nat) (h : lev = 2 \/ lev = 3 \/ lev = 5 \/ lev = 6 \/ lev = 7 \/ lev = 8) (U : St) : fI (some (.i, 185)) (some AV.ke) Ei (.int .i64 (lev : Nat)) false U = .val (QL lev) := by
 rcases h with rfl | rfl | rfl | rfl | rfl | rfl <;> rfl
theorem OT (lev : Nat) (s : bh) (U : St) : fI (some (.s, 5)) (some (AV.int .u8 0)) (QL lev) (.str s) true U = .val (.aR [.int .u8 (match (tA lev).find? (fun p => p.1 = s) with | some p => p.2 | none => 0), .bool ((tA lev).find? (fun p => p.1 = s)).isSome]) := by
 have := rT s (.int .u8 0) ((tA lev).map fun p => (p.1, AV.int .u8 p.2))
 rw [List.map_map, List.map_map, List.find?_map] at this
 simp only [fI, kD, ox, QL]
 rw [show ((tA lev).map fun p => AV.str p.1) = List.map ((fun p : bh × AV => AV.str p.1) ∘ fun p => (p.1, AV.int .u8 p.2)) (tA lev) from rfl, show ((tA lev).map fun p => AV.int .u8 p.2) = List.map ((fun p : bh × AV => p.2) ∘ fun p => (p.1, AV.int .u8 p.2)) (tA lev) from rfl, this]
 have e : ((fun p : bh × AV => decide (p.1 = s)) ∘ fun p : bh × Int => (p.1, AV.int .u8 p.2)) = fun p => decide (p.1 = s) := rfl
 rw [e]
 cases (tA lev).find? fun p => decide (p.1 = s) <;> rfl
theorem GI (L : List Tk) (lev i : Nat) : Eg L lev i = ((tA lev).find? (fun p => p.1 = pb L[i]?)).map (·.2) := by
 have hw : ∀ w : bh, w ≠ [] -> cP L i w = decide (w = pb L[i]?) := fun w h => by rw [BQ h]; simp [eq_comm]
 unfold Eg tA
 rw [hw EZ (by decide), hw Ap (by decide), hw xy (by decide), hw xx (by decide), hw xr (by decide), hw xv (by decide), hw xq (by decide), hw EW (by decide)]
 generalize pb L[i]? = s
 repeat' split
 all_goals simp_all
 all_goals (subst_vars; rfl)
section
variable {X : Rx} {aG U : St} {r k i : Nat} {kind : Int} {text : bh} {n m at_ : Int} {l : List Nd} {R : cD -> St -> Prop} {K' : AV -> St -> Prop} {Kp : AV -> St -> Prop}
theorem GS (hr : U.box r = some (rd X i)) (hi : i <= X.L.length) (h : ∀ ae, cL U ae -> R (.ret (.str (pb X.L[i]?))) ae) : af K 253 [.box r 0] U R := by
 refine Na ?_
 unfold M9
 refine nL hr hi 0 (by omega) fun bJ e1 => ?_
 rw [Nat.add_zero]
 have nu : ∃ kd s a, oU X.L[i]? = [.int .u8 kd, .str s, .int .i64 a] /\ pb X.L[i]? = if kd = 3 \/ kd = 4 then s else [] := by
  cases ht : X.L[i]? with
  | none => exact ⟨0, [], 0, rfl, rfl⟩
  | some t =>
    refine ⟨t.k, t.s, t.at_, rfl, ?_⟩
    have e3 : ((t.k : Int) = 3) = (t.k = 3) := by simp; omega
    have e4 : ((t.k : Int) = 4) = (t.k = 4) := by simp; omega
    simp only [pb, e3, e4]
 obtain ⟨kd, s, a, e, hsg⟩ := nu
 rw [e]
 rw [hsg] at h
 simp only [bA, mi]
 intro b hb
 have e2 := e1.new (x := .box [AV.int .u8 0, AV.str [], AV.int .i64 0]) hb
 rw [show NV.at b .box = AV.box b 0 from rfl, cI aN]
 refine ⟨⟨rfl, rfl, by simp⟩, ?_⟩
 have e3 := e2.set (x := .box (aB [AV.int .u8 0, AV.str [], AV.int .i64 0] 0 (ay (.agg [.int .u8 kd, .str s, .int .i64 a])))) (e1.fresh hb.1)
 generalize lE : (bJ.new b (.box [AV.int .u8 0, AV.str [], AV.int .i64 0])).set b (.box (aB [AV.int .u8 0, AV.str [], AV.int .i64 0] 0 (ay (.agg [.int .u8 kd, .str s, .int .i64 a])))) = cJ at e3 ⊢
 have iD : cJ.box b = some [.int .u8 kd, .str s, .int .i64 a] := by rw [<- lE, aT]; rfl
 simp only [aV, ah, fz iD, List.drop, bM, cr, aX, aI, aC, jB, bl]
 by_cases h3 : kd = 3
 · subst h3
   simp [fz iD, bM]
   exact ak.mk (h _ e3)
 · by_cases h4 : kd = 4
   · subst h4
     simp [fz iD, lX iD, bM]
     exact ak.mk (h _ e3)
   · simp [fz iD, lX iD, bM, h3, h4]
     refine ak.mk ?_
     have := h _ e3
     rw [if_neg (by omega)] at this
     exact this
theorem Np (S : Sk X aG r k i kind text n m at_ l U) (aJ : i < X.L.length) {bt : BT} {lit : Bool} (h : ∀ ae, Sk X aG r k (i + 1) kind text n m at_ l ae -> K' (.aR []) ae) :
 (ao (some (false, 1)) (.box r 1) U).wp K U (fun v U => (aj .add bt lit v (.int .i64 1)).wp K U (fun v U => (aL (some (false, 1)) (.box r 1) v U).wp K U K' Kp) Kp) Kp := by
 have hs := X.small
 have hr := S.A.box
 simp only [fz hr, rd, List.drop, bM, cg]
 refine ⟨aS (by omega) (by omega), ?_⟩
 rw [cI hr]
 refine ⟨⟨rfl, rfl, by simp [rd]⟩, h _ (S.gm (j := i + 1) ⟨?_, (il.refl r U).set (.inr rfl)⟩ aJ (by omega))⟩
 rw [aT]; simp [aB, rd]
theorem eA.ne_nil : ∀ {b : Bool} {ks : List AV} {l : List Nd}, eA b ks l -> b = true -> l = [] -> ks = [] := by
 have h1 : ∀ {b : Bool} {ks : List AV} {l : List Nd}, eA b ks l -> b = false -> l ≠ [] := fun h e => by
  cases h with
  | mk _ _ => simp [node]
  | nil => cases e
  | cons _ _ => cases e
 intro b ks l h e hl
 cases h with
 | mk _ _ => cases e
 | nil => rfl
 | cons a c => exact absurd (List.append_eq_nil_iff.1 hl).1 (h1 a rfl)
theorem eA.cQ {a : AV} {ns : List Nd} (hk : eA false [a] ns) : a.cQ = true /\ ay a = [a] := by
 generalize hb : false = b at hk
 generalize hl : [a] = la at hk
 cases hk with
 | mk _ _ => cases hl; exact ⟨rfl, rfl⟩
 | nil => cases hl
 | cons _ _ => cases hb
theorem EC {a : AV} {ns : List Nd} (S : Sk X aG r k i kind text n m at_ [] U) (hk : eA false [a] ns) (h : ∀ a' ae, eA false [a'] (node kind text n m at_ ns) -> fg r (rd X i) aG ae -> K' a' ae) :
 (aO (some (87, 1)) (some [AV.a8]) 1 false [(0, a)]).wp K U (fun v U => af K 103 [.box k 0, v] U (ax K' Kp)) Kp := by
 obtain ⟨ks, h1, h2, h3⟩ := S.M
 have := h2.ne_nil rfl rfl
 subst this
 rw [fC]
 refine ⟨by omega, ?_⟩
 rw [eO (o := 0) (s := 1) rfl]
 refine ⟨⟨hk.cQ.1, by rw [hk.cQ.2]; rfl, by simp [bK]⟩, ?_⟩
 rw [gM, hk.cQ.2]
 refine ⟨rfl, ?_⟩
 exact G1 (l2 := [a]) h1 S.A (by omega) rfl (by simp) fun ae M A => M.done (h2.snoc hk) A fun a' ae hk A => h a' ae hk A
theorem PF {a b : AV} {ns ms : List Nd} (S : Sk X aG r k i kind text n m at_ [] U) (hk : eA false [a] ns) (fE : eA false [b] ms) (h : ∀ a' ae, eA false [a'] (node kind text n m at_ (ns ++ ms)) -> fg r (rd X i) aG ae -> K' a' ae) :
 (aO (some (87, 1)) (some [AV.a8]) 2 false [(0, a), (1, b)]).wp K U (fun v U => af K 103 [.box k 0, v] U (ax K' Kp)) Kp := by
 obtain ⟨ks, h1, h2, h3⟩ := S.M
 have := h2.ne_nil rfl rfl
 subst this
 rw [fC]
 refine ⟨by omega, ?_⟩
 rw [eO (o := 0) (s := 1) rfl]
 refine ⟨⟨hk.cQ.1, by rw [hk.cQ.2]; rfl, by simp [bK]⟩, ?_⟩
 rw [hk.cQ.2]
 rw [eO (o := 1) (s := 1) rfl]
 refine ⟨⟨fE.cQ.1, by rw [fE.cQ.2]; rfl, by simp [bK, aB]⟩, ?_⟩
 rw [gM, fE.cQ.2]
 refine ⟨rfl, ?_⟩
 exact G1 (l2 := [a, b]) h1 S.A (by omega) rfl (by simp) fun ae M A => M.done (by simpa using (h2.snoc hk).snoc fE) A fun a' ae hk A => h a' ae hk A
def CN (X : Rx) (fu : Nat) : Prop := ∀ f', f' <= fu -> ∀ j lev, j <= X.L.length -> 2 <= lev -> lev <= 9 -> 40 * (X.L.length - j) + (11 - lev) <= f' -> Co X j lev (kK X.L X.E f' lev j) /\ Gd X.L.length (j + 1) j (kK X.L X.E f' lev j)
theorem Sx {fu lev : Nat} (hi : i <= X.L.length) (h2 : 2 <= lev) (h9 : lev <= 9) (hf : 40 * (X.L.length - i) + (11 - lev) <= fu + 1) (hA : lev = 9 -> Ct X 252 i (tW X.L X.E fu i)) (hS : CN X fu) : Co X i lev (kK X.L X.E (fu + 1) lev i) := by
 intro r U R hr O
 refine MF ?_
 unfold ME
 have hs := X.small
 simp only [aX, ah, aY]
 refine ⟨fun e9 => ?_, fun n9 => ⟨fun e4 => ?_, fun n4 => ?_⟩⟩
 · have e9 : lev = 9 := by omega
   rw [kK, if_pos e9] at O
   exact Ba (hA e9) hr O
 · have e4 : lev = 4 := by omega
   have n9 : ¬ lev = 9 := by omega
   rw [kK, if_neg n9, if_pos e4] at O
   refine gB hr hi fun k bJ S => ?_
   refine Ad S (fun hw bP S => ?_) fun hw bP S => ?_
   · rw [if_pos hw] at O
     simp only [bf]
     have aJ := dv hw
     obtain ⟨g1, g2⟩ := hS fu (cX _) (i + 1) 4 aJ (by omega) (by omega) (by omega)
     refine g1 r bP _ S.A.box ⟨fun ns j e hj a ae hk A => ?_, fun j e ae A => O.bad j (by rw [e]; rfl) ae (S.A.trans A)⟩
     rw [e] at g2 O
     have fS : i + 1 < j := g2.1
     refine EC (S.gm A hj (by omega)) hk fun a' ae zx A' => ?_
     exact ak.mk (O.ok _ _ rfl hj a' ae zx A')
   · rw [if_neg (by rw [hw]; simp)] at O
     simp only [aW, cg]
     refine ⟨aS (by omega) (by omega), ?_⟩
     obtain ⟨g1, g2⟩ := hS fu (cX _) i 5 hi (by omega) (by omega) (by omega)
     subst e4
     refine g1 r bP _ S.A.box ?_
     replace O := O.gm S.A
     exact ⟨fun ns j e hj a ae hk A => ak.mk (O.ok ns j e hj a ae hk A), O.bad⟩
 · have n9 : ¬ lev = 9 := by omega
   have n4 : ¬ lev = 4 := by omega
   rw [kK, if_neg n9, if_neg n4] at O
   rw [cg]
   refine ⟨aS (by omega) (by omega), ?_⟩
   obtain ⟨g1, g2⟩ := hS fu (cX _) i (lev + 1) hi (by omega) (by omega) (by omega)
   rw [show ((lev : Nat) : Int) + 1 = ((lev + 1 : Nat) : Int) by omega]
   refine g1 r U _ hr ⟨fun ns j e hj a bJ hk A => ?_, fun j e ae A => O.bad j (by rw [e]; rfl) ae A⟩
   rw [e] at g2 O
   have fS : i < j := g2.1
   replace O : Out X r bJ R (uD X.L X.E fu lev ns j) := Out.gm O A
   refine ⟨fun mm v0 v1 v6 ae => ∃ left j f', mm = X.L.length - j /\ v0 = .box r 0 /\ v1 = .int .i64 (lev : Nat) /\ j <= X.L.length /\ i < j /\ 40 * (X.L.length - j) + 1 <= f' /\ f' <= fu /\ eA false [v6] left /\ ae.box r = some (rd X j) /\ Out X r ae R (uD X.L X.E f' lev left j),
    ⟨_, ns, j, fu, rfl, rfl, rfl, hj, fS, by omega, cX _, hk, A.box, O⟩, ?_⟩
   clear hk A O fS hj e g1 g2
   rintro mm v0 v1 v6 bP ⟨left, j, f', rfl, rfl, rfl, hj, fS, Qi, U6, hk, hr2, O⟩
   cases f' with
   | zero => omega
   | succ f' =>
     rw [uD, GI] at O
     simp only [dw, av, aV, cr, lX hr2, rd, List.drop, fM, OS lev (by omega)]
     refine GS hr2 hj fun cJ e3 => ?_
     simp only [bA]
     refine ⟨?_, ?_, ?_⟩
     · intro b hb
       simp only [cB, Ei, ik, iy, mP, dS, List.not_mem_nil, or_false] at hb
       subst hb
       cases e : bP.live b with
       | none => exact absurd e (de hr2)
       | some x => exact e3 b x e
     · intro b hb
       simp [cB, QL] at hb
     simp only [OT, av, cz, List.drop, fM, c8, ah]
     have A3 : fg r (rd X j) bP cJ := .p6 hr2 e3
     cases hop : (tA lev).find? fun p => p.1 = pb X.L[j]? with
     | none =>
       rw [hop] at O
       simp only [Option.isSome_none, dt, bf]
       exact ak.mk (O.ok _ _ rfl hj _ cJ hk A3)
     | some p =>
       rw [hop] at O
       replace O := O.gm A3
       simp only [Option.isSome_some, ca, aW]
       have aJ : j < X.L.length := GJ (lev := lev) (k := p.2) (by rw [GI, hop]; rfl)
       refine gB A3.box hj fun k cu S => ?_
       simp only [dw, ah, aV, cr]
       refine Np S aJ fun dI S => ?_
       simp only [aX, ah, aY]
       simp only [Option.map_some] at O
       refine ⟨fun e8 => ?_, fun n8 => ?_⟩
       · have e8 : lev = 8 := by omega
         rw [if_pos e8] at O
         refine pL S O fun x oP S O => It S fun nq S => ?_
         have iu := S.hi
         refine EC S hk fun a' ae zx A' => ?_
         exact ⟨_, by omega, _, j + 1 + 1, f', rfl, rfl, rfl, S.hi, by omega, by omega, by omega, zx, A'.box, O.gm A'⟩
       · have n8 : ¬ lev = 8 := by omega
         rw [if_neg n8] at O
         simp only [cg]
         refine ⟨aS (by omega) (by omega), ?_⟩
         obtain ⟨g1, g2⟩ := hS f' (by omega) (j + 1) (lev + 1) aJ (by omega) (by omega) (by omega)
         rw [show ((lev : Nat) : Int) + 1 = ((lev + 1 : Nat) : Int) by omega]
         refine g1 r dI _ S.A.box ⟨fun ns j2 e oR b oP Zu A => ?_, fun j e ae A => O.bad j (by rw [e]; rfl) ae (S.A.trans A)⟩
         rw [e] at g2 O
         have AM : j + 1 < j2 := g2.1
         refine PF (S.gm A oR (by omega)) hk Zu fun a' ae zx A' => ?_
         replace O : Out X r cJ R (if lev = 5 then .ok (node p.2 [] 0 0 (eX X.L X.E j) (left ++ ns)) j2 else uD X.L X.E f' lev (node p.2 [] 0 0 (eX X.L X.E j) (left ++ ns)) j2) := O
         refine ⟨fun e5 => ?_, fun n5 => ?_⟩
         · rw [if_pos (by omega)] at O
           exact ak.mk (O.ok _ _ rfl oR a' ae zx A')
         · rw [if_neg (by omega)] at O
           exact ⟨_, by omega, _, j2, f', rfl, rfl, rfl, oR, by omega, by omega, by omega, zx, A'.box, O.gm A'⟩
end
end Go.Rip
namespace Go.Rip
open Go.Proofs Go.RowKit
theorem eA.size {a : AV} {l : List Nd} (h : eA false [a] l) : ∃ x r, l = x :: r /\ x.size = (l.length : Int) := by
 generalize hb : false = b at h
 generalize hl : [a] = la at h
 cases h with
 | mk _ _ => exact ⟨_, _, rfl, by simp [node]⟩
 | nil => cases hl
 | cons _ _ => cases hb
theorem eA.count : ∀ {ks ks' : List AV} {l : List Nd}, eA true ks l -> eA true ks' l -> ks.length = ks'.length
 | [], ks', l, h, h' => by
   have : l = [] := by
    generalize hb : true = b at h
    generalize hl : ([] : List AV) = la at h
    cases h with
    | mk _ _ => cases hb
    | nil => rfl
    | cons _ _ => cases hl
   rw [h'.ne_nil rfl this]
 | a :: ks, ks', l, h, h' => by
   generalize hb : true = b at h
   generalize hl : a :: ks = la at h
   cases h with
   | mk _ _ => cases hb
   | nil => cases hl
   | @cons a1 ks1 l1 l2 h1 h2 =>
     cases hl
     obtain ⟨x, r, e1, e2⟩ := h1.size
     generalize Dv : l1 ++ l2 = ll at h'
     generalize dm : true = b' at h'
     cases h' with
     | mk _ _ => cases dm
     | nil => rw [e1] at Dv; cases Dv
     | @cons a3 ks3 l3 l4 h3 h4 =>
       obtain ⟨y, r', e3, e4⟩ := h3.size
       have xV : x = y := by rw [e1, e3] at Dv; simpa using congrArg List.head? Dv
       have hlen : l1.length = l3.length := by rw [xV] at e2; omega
       obtain ⟨_, h24⟩ := List.append_inj Dv hlen
       subst h24
       simp [eA.count h2 h4]
section
variable {X : Rx} {aG U : St} {r k i : Nat} {kind : Int} {text : bh} {n m at_ : Int} {l : List Nd} {R : cD -> St -> Prop} {K' : AV -> St -> Prop} {Kp : AV -> St -> Prop} {w : bh}
theorem PG {q : Unit -> Nat -> PR (List Nd)} (hr : U.box r = some (rd X i)) (hi : i <= X.L.length) (O : Out X r U R ((cS X.L w i).bind q)) (h : ∀ ae, i + 1 <= X.L.length -> fg r (rd X (i + 1)) U ae -> Out X r ae R (q () (i + 1)) -> K' (.aR []) ae) : af K 102 [.box r 0, .str w] U (ax K' (aa R)) :=
 AT hr hi w (fun e hl ae A => h ae hl A (by rw [e] at O; exact Out.gm O A)) fun e ae A => O.bad _ (by rw [e]; rfl) _ A
theorem Bb (S : Sk X aG r k i kind text n m at_ l U) (hb : cP X.L i w = true) (h : ∀ ae, Sk X aG r k (i + 1) kind text n m at_ l ae -> K' (.aR []) ae) : af K 102 [.box r 0, .str w] U (ax K' Kp) :=
 AT S.A.box S.hi w (fun e hl ae A => h ae (S.gm A hl (by omega))) fun e ae A => by simp [cS, hb] at e
structure Below (X : Rx) (fu : Nat) : Prop where
 term : ∀ f', f' <= fu -> ∀ j, j <= X.L.length -> 40 * (X.L.length - j) + 11 <= f' -> Ct X 109 j (uV X.L X.E f' j)
 first : ∀ f', f' <= fu -> ∀ j, j <= X.L.length -> 40 * (X.L.length - j) + 10 <= f' -> Ct X 169 j (cE X.L X.E f' j)
 oper : ∀ f', f' <= fu -> ∀ j lev, j <= X.L.length -> 2 <= lev -> lev <= 9 -> 40 * (X.L.length - j) + (11 - lev) <= f' -> Co X j lev (kK X.L X.E f' lev j)
 atom : ∀ f', f' <= fu -> ∀ j, j <= X.L.length -> 40 * (X.L.length - j) + 1 <= f' -> Ct X 252 j (tW X.L X.E f' j)
 arg : ∀ f', f' <= fu -> ∀ j, j <= X.L.length -> 40 * (X.L.length - j) + 12 <= f' -> Ct X 269 j (oY X.L X.E f' j)
theorem Below.Ja {fu i : Nat} (B : Below X fu) (hf : 40 * (X.L.length - i) + 10 <= fu + 40) : gl X fu i := fun j hj fS =>
 ⟨B.first fu (cX _) j hj (by omega), (AI fu).2.2.1 j hj (by omega)⟩
theorem Below.ops {fu : Nat} (B : Below X fu) : CN X fu := fun f' hf j lev hj h2 h9 he => ⟨B.oper f' hf j lev hj h2 h9 he, (AI f').2.2.2.1 j lev hj h9 he⟩
theorem RJ {fu : Nat} (B : Below X fu) (he : 40 * (X.L.length - i) + 12 <= fu) {q : List Nd -> Nat -> PR (List Nd)} (S : Sk X aG r k i kind text n m at_ l U) (O : Out X r aG R ((oY X.L X.E fu i).bind fun a j => (qd X.L X.E fu a j).bind q))
 (h : ∀ ns j ae, j <= X.L.length -> i < j -> Sk X aG r k j kind text n m at_ (l ++ ns) ae -> Out X r aG R (q ns j) -> K' (.aR []) ae) : af K 106 [.box r 0, .box k 0, .func (.func 269) [.box r 0] []] U (ax K' (aa R)) := by
 refine Cc ?_
 unfold Ev
 have jP : eg K.P 269 = true := by kernel_rfl
 rw [CJ jP (c := [])]
 simp only [zV]
 have C : ∀ f', f' <= fu -> ∀ j, j <= X.L.length -> 40 * (X.L.length - j) + 12 <= f' -> Ct X 269 j (oY X.L X.E f' j) /\ Gd X.L.length (j + 1) j (oY X.L X.E f' j) := fun f' h1 j h2 h3 => ⟨B.arg f' h1 j h2 h3, (AI f').2.2.2.2.2.2.2 j h2 h3⟩
 obtain ⟨c1, c2⟩ := C fu (cX _) i S.hi he
 refine kP S c1 c2 O fun ns j bJ hj fS S1 O1 => ?_
 refine ⟨fun mm v0 v1 v2 ae => ∃ acc j f', mm = X.L.length - j /\ v0 = .box r 0 /\ v1 = .box k 0 /\ v2 = .func (.func 269) [.box r 0] [] /\ j <= X.L.length /\ i < j /\ 40 * (X.L.length - j) + 1 <= f' /\ f' <= fu /\ Sk X aG r k j kind text n m at_ (l ++ acc) ae /\ Out X r aG R ((qd X.L X.E f' acc j).bind q),
  ⟨_, ns, j, fu, rfl, rfl, rfl, rfl, hj, fS, by omega, cX _, S1, O1⟩, ?_⟩
 rintro mm v0 v1 v2 bP ⟨acc, j2, f', rfl, rfl, rfl, rfl, oR, AM, U6, hf3, S2, O2⟩
 cases f' with
 | zero => omega
 | succ f' =>
   rw [qd] at O2
   refine Ad S2 (fun hw cJ S3 => ?_) (fun hw cJ S3 => ?_)
   · simp only [bf]
     rw [if_pos hw] at O2
     have aJ := dv hw
     rw [CJ jP (c := [])]
     have e2 : ((oY X.L X.E f' (j2 + 1)).bind fun b j => qd X.L X.E f' (acc ++ b) j).bind q = (oY X.L X.E f' (j2 + 1)).bind fun b j => (qd X.L X.E f' (acc ++ b) j).bind q := by
      cases oY X.L X.E f' (j2 + 1) <;> rfl
     rw [e2] at O2
     obtain ⟨c1, c2⟩ := C f' (by omega) _ aJ (by omega)
     refine kP S3 c1 c2 O2 fun V8 j3 cu Gi aay S4 O4 => ?_
     exact ⟨_, by omega, acc ++ V8, j3, f', rfl, rfl, rfl, rfl, Gi, by omega, by omega, by omega, by rw [<- nI]; exact S4, O4⟩
   · simp only [aW]
     rw [if_neg (by rw [hw]; simp)] at O2
     exact ak.mk (h acc j2 cJ oR AM S3 O2)
theorem Us {fu : Nat} (B : Below X fu) (hi : i <= X.L.length) (he : 40 * (X.L.length - i) + 12 <= fu + 1) : Ct X 269 i (oY X.L X.E (fu + 1) i) := by
 intro r U R hr O
 refine Ng ?_
 unfold Nf
 rw [oY] at O
 have hs := X.small
 have hF := B.Ja (i := i) (by omega)
 refine Nq hr hi fun b bJ hb A1 => ?_
 replace O := O.gm A1
 cases b with
 | true =>
   simp only [bf]
   rw [if_pos hb] at O
   refine gB A1.box hi fun k bP S => ?_
   refine Bb S hb fun cJ S => eJ S O fun cJ S O => ?_
   refine R9 (by kernel_rfl) (fun i hi => F0 hi) (fun i hi => tY hi) (by omega) (by omega) S O fun ns j cu hj fS S O => ?_
   refine eJ S O fun dI S O => ?_
   exact jN hF (by omega) S O fun ns j dI hj fS S O => fe S O
 | false =>
   simp only [aW]
   rw [if_neg (by rw [hb]; simp)] at O
   refine Nq A1.box hi fun b2 bP lQ A2 => ?_
   replace O := O.gm A2
   cases b2 with
   | true =>
     simp only [bf]
     rw [if_pos lQ] at O
     refine gB A2.box hi fun k bP S => ?_
     refine Bb S lQ fun cJ S => eJ S O fun cJ S O => ?_
     refine jN hF (by omega) S O fun ns j dI hj fS S O => eJ S O fun _ S O => eJ S O fun _ S O => ?_
     refine kP S (F0 S.hi) (tY S.hi) O fun ns j dI hj fS S O => eJ S O fun _ S O => ?_
     exact jN hF (by omega) S O fun ns j dI hj fS S O => eJ S O fun _ S O => fe S O
   | false =>
     simp only [aW]
     rw [if_neg (by rw [lQ]; simp)] at O
     exact Ba (B.term fu (cX _) i hi (by omega)) A2.box O
end
end Go.Rip
namespace Go.Rip
open Go.Proofs Go.RowKit
theorem n6 {U : St} {b : Nat} {ks vs : List AV} : (U.set b (.mp ks vs)).mp b = some (ks, vs) := by simp [St.mp, eS]
theorem J9 {U : St} {b : Nat} {ks vs : List AV} : (U.new b (.mp ks vs)).mp b = some (ks, vs) := by simp [St.mp, nD]
theorem HW {U ae : St} {b : Nat} (h : ae.live b = U.live b) : ae.mp b = U.mp b := by simp [St.mp, h]
theorem cL.mp {U ae : St} {b : Nat} {x : List AV × List AV} (h : cL U ae) (k : U.mp b = some x) : ae.mp b = some x := by
 cases e : U.live b with
 | none => simp [St.mp, e] at k
 | some y => rw [HW ((h b y e).trans e.symm)]; exact k
theorem tP {C : cw} {U : St} {K' : AV -> St -> Prop} {Kp : AV -> St -> Prop} {m : Nat} {ks vs ks' vs' : List AV} {s : bh} {v : AV} {t : TypeId} (h : U.mp m = some (ks, vs)) (hf : jS .s (.str s) ks 0 = some none) (hi : fB (.str s) v ks vs = (ks', vs')) :
 (iw (some (.s, t)) (.mp m) (.str s) v U).wp C U K' Kp = K' (.aR []) (U.set m (.mp ks' vs')) := by
 simp only [iw, h, hf, ox, hi]; rfl
def pC : List (bh × Int) := [(pA, 32), (gC, 28), (lg, 30), (nj, 31), (jF, 29), (gb, 27)]
theorem RN (s : bh) {U : St} {m : Nat} (h : U.mp m = some (pC.map fun p => .str p.1, pC.map fun p => .int .u8 p.2)) : fI (some (.s, 5)) (some (AV.int .u8 0)) (.mp m) (.str s) true U = .val (.aR [.int .u8 (match pC.find? (fun p => p.1 = s) with | some p => p.2 | none => 0), .bool (pC.find? (fun p => p.1 = s)).isSome]) := by
 have := rT s (.int .u8 0) (pC.map fun p => (p.1, AV.int .u8 p.2))
 rw [List.map_map, List.map_map, List.find?_map] at this
 simp only [fI, kD, ox, h]
 rw [show (pC.map fun p => AV.str p.1) = List.map ((fun p : bh × AV => AV.str p.1) ∘ fun p => (p.1, AV.int .u8 p.2)) pC from rfl, show (pC.map fun p => AV.int .u8 p.2) = List.map ((fun p : bh × AV => p.2) ∘ fun p => (p.1, AV.int .u8 p.2)) pC from rfl, this]
 have e : ((fun p : bh × AV => decide (p.1 = s)) ∘ fun p : bh × Int => (p.1, AV.int .u8 p.2)) = fun p => decide (p.1 = s) := rfl
 rw [e]
 cases pC.find? fun p => decide (p.1 = s) <;> rfl
section
variable {X : Rx} {aG U : St} {r k i : Nat} {kind : Int} {text : bh} {n m at_ : Int} {l : List Nd} {R : cD -> St -> Prop} {K' : AV -> St -> Prop} {Kp : AV -> St -> Prop} {w : bh}
theorem RO {fu : Nat} (B : Below X fu) (hi : i <= X.L.length) (he : 40 * (X.L.length - i) + 1 <= fu + 1) : Ct X 252 i (tW X.L X.E (fu + 1) i) := by
 intro r U R hr O
 refine M8 ?_
 unfold M7
 have hs := X.small
 rw [mi]
 intro mm ZC
 have e1 : cL U (U.new mm (.mp [] [])) := (cL.refl U).new ZC
 have hn := ZC.1
 rw [show NV.at mm .mp = AV.mp mm from rfl]
 generalize OE : U.new mm (.mp [] []) = bJ at e1 ⊢
 have m1 : bJ.mp mm = some ([], []) := by rw [<- OE]; exact J9
 rw [tP (ks' := [.str gb]) (vs' := [.int .u8 27]) m1 rfl rfl]
 rw [tP (ks' := [.str gC, .str gb]) (vs' := [.int .u8 28, .int .u8 27]) n6 rfl rfl]
 rw [tP (ks' := [.str gC, .str jF, .str gb]) (vs' := [.int .u8 28, .int .u8 29, .int .u8 27]) n6 rfl rfl]
 rw [tP (ks' := [.str gC, .str lg, .str jF, .str gb]) (vs' := [.int .u8 28, .int .u8 30, .int .u8 29, .int .u8 27]) n6 rfl rfl]
 rw [tP (ks' := [.str gC, .str lg, .str nj, .str jF, .str gb]) (vs' := [.int .u8 28, .int .u8 30, .int .u8 31, .int .u8 29, .int .u8 27]) n6 rfl rfl]
 rw [tP (ks' := [.str pA, .str gC, .str lg, .str nj, .str jF, .str gb]) (vs' := [.int .u8 32, .int .u8 28, .int .u8 30, .int .u8 31, .int .u8 29, .int .u8 27]) n6 rfl rfl]
 have e2 := (((((e1.set (x := .mp [.str gb] [.int .u8 27]) hn).set (x := .mp [.str gC, .str gb] [.int .u8 28, .int .u8 27]) hn).set (x := .mp [.str gC, .str jF, .str gb] [.int .u8 28, .int .u8 29, .int .u8 27]) hn).set (x := .mp [.str gC, .str lg, .str jF, .str gb] [.int .u8 28, .int .u8 30, .int .u8 29, .int .u8 27]) hn).set (x := .mp [.str gC, .str lg, .str nj, .str jF, .str gb] [.int .u8 28, .int .u8 30, .int .u8 31, .int .u8 29, .int .u8 27]) hn).set (x := .mp [.str pA, .str gC, .str lg, .str nj, .str jF, .str gb] [.int .u8 32, .int .u8 28, .int .u8 30, .int .u8 31, .int .u8 29, .int .u8 27]) hn
 generalize OF : ((((((bJ.set mm (.mp [.str gb] [.int .u8 27])).set mm _).set mm _).set mm _).set mm _).set mm _) = bP at e2 ⊢
 have m2 : bP.mp mm = some (pC.map fun p => .str p.1, pC.map fun p => .int .u8 p.2) := by rw [<- OF]; exact n6
 have hr2 := e2.bj hr
 refine GS hr2 hi fun cJ e3 => ?_
 simp only [bA, RN _ (e3.mp m2), ah, cz, List.drop, bM]
 have A3 : fg r (rd X i) U cJ := .p6 hr (e2.trans e3)
 replace O := O.gm A3
 have hw : ∀ w : bh, w ≠ [] -> cP X.L i w = decide (w = pb X.L[i]?) := fun w h => by rw [BQ h]; simp [eq_comm]
 rw [tW, hw gb (by decide), hw gC (by decide), hw jF (by decide), hw lg (by decide), hw nj (by decide), hw pA (by decide)] at O
 simp only [c7] at O
 cases zp : pC.find? fun p => p.1 = pb X.L[i]? with
 | some p =>
   simp only [Option.isSome_some, bf]
   have hp : p ∈ pC := List.mem_of_find?_eq_some zp
   have Qw : p.1 = pb X.L[i]? := by simpa using List.find?_some zp
   have bW : p.1 ≠ [] := by
    have : ∀ p ∈ pC, p.1 ≠ [] := by decide
    exact this p hp
   have aJ : i < X.L.length := dv (w := p.1) (by rw [hw _ bW, Qw]; simp)
   refine gB A3.box hi fun k cu S => ?_
   simp only [dw, ah, aV, cr]
   refine Np S aJ fun dI S => ?_
   intro j hj
   simp only [aX, ah, aI, aC, jB, bl]
   rw [<- Qw] at O
   simp only [pC, dS, List.not_mem_nil, or_false] at hp
   have t1 : (pA = gb) = False := by simp; decide
   rcases hp with rfl | rfl | rfl | rfl | rfl | rfl
   · simp (decide := true) only [if_false, if_true] at O
     simp (decide := true) [bf]
     exact od S O fun x _ S O => oe S fun _ S => hj _ _ (fe S O)
   · simp (decide := true) only [if_false, if_true] at O
     simp (decide := true) [aW]
     exact hj _ _ (fe S O)
   · simp (decide := true) only [if_false, if_true] at O
     simp (decide := true) [aW]
     exact hj _ _ (fe S O)
   · simp (decide := true) only [if_false, if_true] at O
     simp (decide := true) [bf]
     exact od S O fun x _ S O => oe S fun _ S => hj _ _ (fe S O)
   · simp (decide := true) only [if_false, if_true] at O
     simp (decide := true) [aW]
     exact hj _ _ (fe S O)
   · simp (decide := true) only [if_false, if_true] at O
     simp (decide := true) [aW]
     exact hj _ _ (fe S O)
 | none =>
   simp only [Option.isSome_none, aW]
   have fT : ∀ w ∈ pC.map (·.1), ¬ w = pb X.L[i]? := fun w hw e => by
    rw [List.find?_eq_none] at zp
    obtain ⟨p, hp, rfl⟩ := List.mem_map.1 hw
    simpa [e] using zp p hp
   rw [if_neg (fT _ (by decide)), if_neg (fT _ (by decide)), if_neg (fT _ (by decide)), if_neg (fT _ (by decide)), if_neg (fT _ (by decide)), if_neg (fT _ (by decide))] at O
   refine D7 A3.box hi pB (fun hb cu A4 => ?_) (fun hb cu e4 => ?_)
   · simp only [bA, bf]
     rw [if_pos hb] at O
     have aJ := dv hb
     replace O := O.gm A4
     have g2 := (AI (L := X.L) (E := X.E) fu).1 (i + 1) aJ (by omega)
     refine B.term fu (cX _) (i + 1) aJ (by omega) r cu _ A4.box ⟨fun ns j e hj a ae hk A => ?_, fun j e ae A => O.bad j (by rw [e]; rfl) ae A⟩
     rw [e] at O
     refine PG A.box hj (Out.gm O A) fun dI hj5 A5 O => ?_
     exact ak.mk (O.ok _ _ rfl hj5 a dI hk ⟨A5.box, il.refl _ _⟩)
   · simp only [bA, aW]
     rw [if_neg (by rw [hb]; simp)] at O
     have A4 : fg r (rd X i) cJ cu := .p6 A3.box e4
     replace O := O.gm A4
     refine nL A4.box hi 0 (by omega) fun dI e5 => ?_
     rw [Nat.add_zero]
     have A5 : fg r (rd X i) cu dI := .p6 A4.box e5
     replace O := O.gm A5
     obtain ⟨kd, s, a, e, hm⟩ := si X.L[i]?
     rw [e]
     simp only [bA, Hg, List.drop, bM, aX, ah, aY]
     have fE : sD X.L i 2 = true ↔ kd = 2 := by
      refine Iff.trans ?_ (hm 2 (by omega)).symm
      unfold sD
      cases ht : X.L[i]? with
      | none => simp
      | some t =>
        rw [ht] at e; simp only [oU, nh, List.cons.injEq, AV.str.injEq, true_and] at e
        simp [e.2.1]
     refine ⟨fun h2 => ?_, fun h2 => ?_⟩
     · rw [if_pos (fE.2 h2)] at O
       refine gB A5.box hi fun k oP S => ?_
       simp only [dw, ah, aV, cr]
       exact pL S O fun x _ S O => It S fun _ S => fe S O
     · rw [if_neg (fun h => h2 (fE.1 h))] at O
       refine gB A5.box hi fun k oP S => ?_
       simp only [dw, ah, aV, cr]
       refine od S O fun x _ S O => oe S fun _ S => ?_
       intro j hj
       refine Ad S (fun hw nq S => ?_) fun hw nq S => ?_
       · simp only [bf]
         rw [if_pos hw] at O
         have hh := S.hi
         refine SH S fun _ S => RJ B (by omega) S O fun ns j2 Cg oR AM S O => ?_
         exact eJ S O fun _ S O => hj _ _ (fe S O)
       · simp only [aW]
         rw [if_neg (by rw [hw]; simp)] at O
         exact hj _ _ (fe S O)
end
end Go.Rip
namespace Go.Rip
open Go.Proofs Go.RowKit
section
variable {X : Rx} {aG U : St} {r k i : Nat} {kind : Int} {text : bh} {n m at_ : Int} {l : List Nd} {R : cD -> St -> Prop} {K' : AV -> St -> Prop} {Kp : AV -> St -> Prop} {w : bh}
theorem SG {a : AV} {ns : List Nd} (S : Sk X aG r k i kind text n m at_ [] U) (hi : 1 <= i) (hk : eA false [a] ns) (h : ∀ ae, Sk X aG r k i kind text n m at_ ns ae -> K' (.box k 0) ae) :
 (aO (some (87, 1)) (some [AV.a8]) 1 false [(0, a)]).wp K U (fun v U => af K 103 [.box k 0, v] U (ax K' (aa R))) (aa R) :=
 EB S (fun ks h1 h2 h3 => ⟨ks, h1, h2, by rw [h2.ne_nil rfl rfl]; simpa using hi⟩) hk fun ae S => h ae (by simpa using S)
theorem On {U : St} {v : AV} {e sz n : Nat} {l : List AV} (h : Grow U v e sz n l) : bz (some false) v = .val (.int .i64 n) := by
 rcases h with ⟨rfl, rfl, rfl⟩ | ⟨τ, rfl, _⟩ <;> rfl
theorem SJ {fu : Nat} (B : Below X fu) (hi : i <= X.L.length) (he : 40 * (X.L.length - i) + 11 <= fu + 1) : Ct X 109 i (uV X.L X.E (fu + 1) i) := by
 intro r U R hr O
 refine KU ?_
 unfold KT
 have hs := X.small
 rw [uV] at O
 have g := (AI (L := X.L) (E := X.E) fu).2.2.1 i hi (by omega)
 refine B.first fu (cX _) i hi (by omega) r U _ hr ⟨fun ns j e hj a bJ hk A1 => ?_, fun j e ae A => O.bad j (by rw [e]; rfl) ae A⟩
 rw [e] at O g
 have fS : i < j := g.1
 have O1 : Out X r bJ R (yP X.L X.E fu (eX X.L X.E j) ns 1 j) := Out.gm O A1
 clear O e g
 refine gB A1.box hj fun k bP S => ?_
 refine SG S (by omega) hk fun cJ S => ?_
 intro jj xP
 have fin : ∀ (acc : List Nd) (many q : Nat) (ae : St), Sk X bJ r k q 9 [] 0 0 (eX X.L X.E j) acc ae -> (∃ ks, eA true ks acc /\ ks.length = many) -> (many = 1 -> acc = ns) -> Out X r bJ R (.ok (if many = 1 then acc else node 9 [] 0 0 (eX X.L X.E j) acc) q) -> jj a (.box k 0) ae := by
  intro acc many q ae S ⟨ZX, Vd, lD⟩ h1 O
  refine xP _ _ _ ?_
  have Qy := S.hi
  have hA' := S.A
  obtain ⟨ks, M, Zx, hle⟩ := S.M
  have hl : ks.length = many := (Zx.count Vd).trans lD
  obtain ⟨kv, b1, b2, b3, b4⟩ := M.box
  simp only [dw, ah, aV, cr, fz b1, rO, List.drop, bM, On b2, aX, aY, hl]
  refine ⟨fun h => ?_, fun h => ?_⟩
  · have h : many = 1 := by omega
    rw [if_pos h] at O
    have := h1 h
    subst this
    exact ak.mk (O.ok _ _ rfl Qy a ae hk hA')
  · rw [if_neg (by omega)] at O
    exact fe S O
 refine ⟨fun mm v0 v3 v4 ae => ∃ acc many q f', mm = X.L.length - q /\ v0 = .box r 0 /\ v3 = a /\ v4 = .box k 0 /\ i < q /\ 40 * (X.L.length - q) + 1 <= f' /\ f' <= fu /\ Sk X bJ r k q 9 [] 0 0 (eX X.L X.E j) acc ae /\ (∃ ks, eA true ks acc /\ ks.length = many) /\ (many = 1 -> acc = ns) /\ 1 <= many /\ Out X r bJ R (yP X.L X.E f' (eX X.L X.E j) acc many q),
  ⟨_, ns, 1, j, fu, rfl, rfl, rfl, rfl, fS, by omega, cX _, S, ⟨[a], hk.one, rfl⟩, fun _ => rfl, cX _, O1⟩, ?_⟩
 clear O1 S fS
 rintro mm v0 v3 v4 cu ⟨acc, many, q, f', rfl, rfl, rfl, rfl, hiq, Qi, U6, S, iE, Gl, Qp, O⟩
 cases f' with
 | zero => omega
 | succ f' =>
   rw [yP] at O
   have hq := S.hi
   refine WJ S fun b dI hb S => ?_
   cases b with
   | false =>
     simp only [aW]
     rw [if_neg (by rw [hb]; simp)] at O
     exact fin acc many q dI S iE Gl O
   | true =>
     simp only [bf]
     have aJ := dv hb
     refine nL S.A.box hq 1 (by omega) fun oP e6 => ?_
     obtain ⟨kd, s, at', e, hm⟩ := si X.L[q + 1]?
     have AN : kd = 0 ↔ X.L.length <= q + 1 := by
      cases ht : X.L[q + 1]? with
      | none =>
        rw [ht] at e; simp only [oU, List.cons.injEq, AV.int.injEq, true_and] at e
        rw [List.getElem?_eq_none_iff] at ht
        exact ⟨fun _ => ht, fun _ => e.1.symm⟩
      | some t =>
        rw [ht] at e; simp only [oU, nh, List.cons.injEq, AV.int.injEq, true_and] at e
        have := (dF.1 ht).1
        have hk := (X.ok t (fO ht)).cases
        constructor
        · intro h; omega
        · intro h; omega
     have UT := Fb X.L[q + 1]?
     rw [Sj] at UT
     rw [e] at UT ⊢
     simp only [bA, mi]
     intro b2 lQ
     have e7 := e6.new (x := .box [AV.int .u8 0, AV.str [], AV.int .i64 0]) lQ
     rw [show NV.at b2 .box = AV.box b2 0 from rfl, cI aN]
     refine ⟨⟨rfl, rfl, by simp⟩, ?_⟩
     have e8 := e7.set (x := .box (aB [AV.int .u8 0, AV.str [], AV.int .i64 0] 0 (ay (.agg [.int .u8 kd, .str s, .int .i64 at'])))) (e6.fresh lQ.1)
     generalize lE : (oP.new b2 (.box [AV.int .u8 0, AV.str [], AV.int .i64 0])).set b2 (.box (aB [AV.int .u8 0, AV.str [], AV.int .i64 0] 0 (ay (.agg [.int .u8 kd, .str s, .int .i64 at'])))) = Cg at e8 ⊢
     have ou : Cg.box b2 = some [.int .u8 kd, .str s, .int .i64 at'] := by rw [<- lE, aT]; rfl
     replace S := S.gm (.p6 S.A.box e8) hq (cX _)
     simp only [aV, ah, fz ou, List.drop, bM, cr, aX, aI, aC]
     have stop : ¬ (q + 1 < X.L.length /\ DV X.L (q + 1) = false) -> jj v3 (.box k 0) Cg := fun hn => by
      rw [if_neg (fun h => hn h.2)] at O
      exact fin acc many q Cg S iE Gl O
     by_cases h0 : kd = 0
     · simp only [h0, bT, show (true == false) = false from rfl, a7, aA, if_true, ah, bf]
       exact stop (fun h => by have := AN.1 h0; omega)
     · simp only [h0, ct, dG, bl, xk ou, El, ga, aA, bo, if_false, ah]
       refine ⟨by simp, _, UT, ?_⟩
       cases hit : DV X.L (q + 1) with
       | true => simp only [bf]; exact stop (fun h => by rw [hit] at h; cases h.2)
       | false =>
         simp only [aW]
         have sB : q + 1 < X.L.length := by
          rcases eM (q + 1) X.L.length with h | h
          · exact h
          · exact absurd (AN.2 h) h0
         rw [if_pos ⟨hb, sB, hit⟩] at O
         refine Bb S hb fun pP S => ?_
         have hF : gl X f' q := fun j hj ZI => ⟨B.first f' (by omega) j hj (by omega), (AI f').2.2.1 j hj (by omega)⟩
         have Dm : ∀ GD a2, eA false [a2] GD -> ∃ ks, eA true ks (acc ++ GD) /\ ks.length = many + 1 := fun GD a2 h => by
          obtain ⟨ks, h1, h2⟩ := iE
          exact ⟨ks ++ [a2], h1.snoc h, by simp [h2]⟩
         obtain ⟨g1, g2⟩ := hF (q + 1) aJ (by omega)
         refine g1 r pP _ S.A.box ⟨fun GD j2 e oR a2 u6 fE A2 => ?_, fun j e ae A => O.bad j (by rw [e]; rfl) ae (S.A.trans A)⟩
         rw [e] at g2 O
         have ZI : q + 1 < j2 := g2.1
         obtain ⟨ks, M1, M2, M3⟩ := S.M
         have S2 := S.gm A2 oR (by omega)
         refine EB S2 (fun _ _ _ _ => ⟨ks, M1.gm A2 S.A.box, M2, by omega⟩) fE fun abz S3 => ?_
         refine ⟨_, ?_, acc ++ GD, many + 1, j2, f', rfl, rfl, rfl, rfl, by omega, by omega, by omega, S3, Dm GD a2 fE, fun h => by omega, by omega, O⟩
         omega
end
theorem below : ∀ (X : Rx) (fu : Nat), Below X fu := fun X fu => by
 induction fu with
 | zero => constructor <;> intros <;> omega
 | succ fu B =>
   have st : ∀ {f' : Nat}, f' <= fu + 1 -> f' <= fu \/ f' = fu + 1 := fun h => by omega
   refine ⟨fun f' hf j hj he => ?_, fun f' hf j hj he => ?_, fun f' hf j lev hj h2 h9 he => ?_, fun f' hf j hj he => ?_, fun f' hf j hj he => ?_⟩
   · rcases st hf with h | rfl
     · exact B.term f' h j hj he
     · exact SJ B hj he
   · rcases st hf with h | rfl
     · exact B.first f' h j hj he
     · exact Of hj (B.Ja (by omega)) (B.oper fu (cX _) j 2 hj (by omega) (by omega) (by omega))
   · rcases st hf with h | rfl
     · exact B.oper f' h j lev hj h2 h9 he
     · exact Sx hj h2 h9 he (fun h => B.atom fu (cX _) j hj (by omega)) B.ops
   · rcases st hf with h | rfl
     · exact B.atom f' h j hj he
     · exact RO B hj he
   · rcases st hf with h | rfl
     · exact B.arg f' h j hj he
     · exact Us B hj he
end Go.Rip
