/- Lemmas for the proof: no conditions. -/
import Derived.Test.YtnfpmiiopiinbaaGreatDoorRipZz
import Derived.Test.YtnfpmiiopiinbaaGreatDoorRipN
set_option linter.unusedVariables false
set_option linter.unusedSimpArgs false
set_option linter.loopingSimpArgs false
namespace Go.Rip
open Go.Proofs Go.RowKit
section
variable {X : Rx} {i : Nat}
theorem KW {U : St} {r : Nat} {w : aZ} {K' : AV -> St -> Prop} {Kp : AV -> St -> Prop} (hr : U.box r = some (rd X i)) (hi : i <= X.L.length) (h : ∀ b ad, cr X.L i w = b -> eo r (rd X i) U ad -> K' (.bool b) ad) :
 (aH (some (9, 1)) (some [AV.str []]) 1 false [(0, .str w)]).wp K U (fun v U => ae K 105 [.box r 0, v] U (ar K' Kp)) Kp := by
 rw [gq]
 refine ⟨by omega, ?_⟩
 rw [eD (o := 0) (s := 1) rfl]
 refine ⟨⟨rfl, rfl, by simp [bw]⟩, ?_⟩
 rw [ib]
 refine ⟨rfl, ?_⟩
 refine Gb (l := [w]) hr hi (by simp) fun bH e1 => ?_
 exact h _ _ (by rw [vF]) (.oK hr e1)
theorem zy {U : St} {r : Nat} {R : cu -> St -> Prop} {f : FuncId} {p : PR (List Nd)} (C : Ct X f i p) (hr : U.box r = some (rd X i)) (O : Out X r U R p) : ae K f [.box r 0] U (ar (fun v U => al R v U) (aa R)) :=
 C r U _ hr ⟨fun ns j e hj a ad hk A => al.mk (O.ok ns j e hj a ad hk A), O.bad⟩
theorem Ec (hi : i <= X.L.length) : Ct X 278 i (xw X.L X.E i) := by
 intro r U R hr O
 refine KN ?_
 unfold KM
 refine fJ hr hi fun k bH S => ?_
 simp only [cW, ah, aU, cD]
 exact mB S O fun x c7 S O => mC S fun dy S => ej S O
end
end Go.Rip
namespace Go.Rip
open Go.Proofs Go.RowKit
theorem Ga {c : hX} (o : Option Tk) (l : List aZ) (hn : l.length <= 100000) (hc : closed (.vec l.length c (l.map .str)) = true) : Pure K 121 [.agg (nw o), .vec l.length c (l.map .str)] (.bool (qP o l)) := by
 refine Pure.of ?_ rfl (fun U => rfl) fun R hR => wW o l hn fun ad _ => hR ad
 have : closed (.agg (nw o)) = true := by cases o <;> rfl
 simp only [bS, this, hc, Bool.and_self]
section
variable {X : Rx} {ay U : St} {r k i : Nat} {kind : Int} {text : aZ} {n m at_ : Int} {l : List Nd} {R : cu -> St -> Prop} {K' : AV -> St -> Prop} {Kp : AV -> St -> Prop} {w : aZ} {f : FuncId}
def fy (X : Rx) (f i : Nat) : Prop := ∀ j, j <= X.L.length -> i < j -> Ct X 169 j (cg X.L X.E f j) /\ Gd X.L.length (j + 1) j (cg X.L X.E f j)
def yN (X : Rx) (f : Nat) (fin : List Nd -> Nat -> PR (List Nd)) : List aZ -> List Nd -> Nat -> PR (List Nd)
 | [], acc, i => fin acc i
 | w :: ws, acc, i => (cx X.L w i).bind fun _ j => (cg X.L X.E f j).bind fun a j => yN X f fin ws (acc ++ a) j
theorem C8 {fu i0 : Nat} (hF : fy X fu i0) {fin : List Nd -> Nat -> PR (List Nd)} (ws : List aZ) (hw : ws.length <= 10) (BY : i0 <= i) (S : Sk X ay r k i kind text n m at_ l U) {ac : List Nd} (ZP : ac = l) (O : Out X r ay R (yN X fu fin ws ac i))
 (h : ∀ acc j ad, Sk X ay r k j kind text n m at_ acc ad -> Out X r ay R (fin acc j) -> al R (.box k 0) ad) :
 dQ 5 [.box r 0, .box k 0, .vec ws.length .full (ws.map .str), .int .i64 ws.length, .int .i64 0] U fun lp v0 v3 pR jn v10 U =>
 (av .lss (BT.mk false false false none false) false v10 jn).wp K U (fun v11 U =>
 az v11 (
  (aP (some (9, 1)) none pR v10).wp K U (fun v12 U =>
  (aq (some (false, 1)) v12 U).wp K U (fun cb U =>
  ae K 102 [v0, cb] U (ar (fun du U =>
  ae K 169 [v0] U (ar (fun di U =>
  (aH (some (87, 1)) (some [AV.aT]) 1 false [(0, di)]).wp K U (fun v20 U =>
  ae K 103 [v3, v20] U (ar (fun v21 U =>
  (av .add (BT.mk false false false none false) true v10 (AV.int .i64 1)).wp K U (fun de U =>
  lp v0 v3 pR jn de U) (aa R)) (aa R))) (aa R)) (aa R))) (aa R))) (aa R)) (aa R)) (
  al R v3 U)) (aa R) := by
 subst ZP
 refine ⟨fun mm v0 v3 v8 v9 v10 ad => ∃ t acc j, t <= ws.length /\ mm = ws.length - t /\ v0 = .box r 0 /\ v3 = .box k 0 /\ v8 = .vec ws.length .full (ws.map .str) /\ v9 = .int .i64 ws.length /\ v10 = .int .i64 (t : Nat) /\ i0 <= j /\ Sk X ay r k j kind text n m at_ acc ad /\ Out X r ay R (yN X fu fin (ws.drop t) acc j),
  ⟨_, 0, _, _, by omega, rfl, rfl, rfl, rfl, rfl, rfl, BY, S, O⟩, ?_⟩
 rintro mm v0 v3 v8 v9 v10 bH ⟨t, acc, j, ht, rfl, rfl, rfl, rfl, rfl, rfl, et, S, O⟩
 simp only [bP, ah, bE]
 refine ⟨fun aK => ?_, fun hY => ?_⟩
 · have aK : t < ws.length := by omega
   have hd : (ws.map AV.str).drop (t * 1) = .str ws[t] :: (ws.map AV.str).drop (t + 1) := by
    rw [Nat.mul_one, gp (by simpa using aK)]; simp
   have tC : ws.drop t = ws[t] :: ws.drop (t + 1) := gp aK
   rw [tC] at O
   simp only [Dp, eG, hd, ox, bB]
   refine ⟨by omega, ?_⟩
   unfold yN at O
   refine dT S O fun bJ S O => ?_
   obtain ⟨g1, g2⟩ := hF _ S.hi (by omega)
   refine jI S g1 g2 O fun ns j2 c7 po zc S O => ?_
   simp only [c8]
   refine ⟨aX (by omega) (by omega), ws.length - (t + 1), by omega, t + 1, _, _, aK, rfl, rfl, rfl, rfl, rfl, rfl, by omega, S, O⟩
 · have : t = ws.length := by omega
   subst this
   rw [List.drop_length] at O
   exact h _ _ _ S O
theorem Hw {fu : Nat} (hi : i <= X.L.length) (hF : fy X fu i) : Ct X 158 i ((cx X.L zG i).bind fun _ j => (cg X.L X.E fu j).bind fun c j => (cx X.L vb j).bind fun _ j => (cg X.L X.E fu j).bind fun a j => (cx X.L kT j).bind fun _ j => (cg X.L X.E fu j).bind fun b j => .ok (node 10 [] 0 0 (ef X.L X.E i) (c ++ a ++ b)) j) := by
 intro r U R hr O
 refine JP ?_
 unfold JO
 refine fJ hr hi fun k bH S => ?_
 rw [gq]
 refine ⟨by omega, ?_⟩
 rw [eD (o := 0) (s := 1) rfl]
 refine ⟨⟨rfl, rfl, by simp [bw]⟩, ?_⟩
 rw [eD (o := 1) (s := 1) rfl]
 refine ⟨⟨rfl, rfl, by simp [bw, aw]⟩, ?_⟩
 rw [eD (o := 2) (s := 1) rfl]
 refine ⟨⟨rfl, rfl, by simp [bw, aw]⟩, ?_⟩
 rw [ib]
 refine ⟨rfl, ?_⟩
 simp only [rL, ah]
 exact C8 (fin := fun acc j => .ok (node 10 [] 0 0 (ef X.L X.E i) acc) j) hF [zG, vb, kT] (by simp) (cG _) S rfl O fun acc j ad S O => ej S O
theorem PK {fu : Nat} (hi : i <= X.L.length) (hF : fy X fu i) : Ct X 159 i ((cx X.L o9 i).bind fun _ j => (cg X.L X.E fu j).bind fun a j => (cx X.L Dl j).bind fun _ j => (cg X.L X.E fu j).bind fun b j => .ok (node 11 [] 0 0 (ef X.L X.E i) (a ++ b)) j) := by
 intro r U R hr O
 refine JR ?_
 unfold JQ
 refine fJ hr hi fun k bH S => ?_
 rw [gq]
 refine ⟨by omega, ?_⟩
 rw [eD (o := 0) (s := 1) rfl]
 refine ⟨⟨rfl, rfl, by simp [bw]⟩, ?_⟩
 rw [eD (o := 1) (s := 1) rfl]
 refine ⟨⟨rfl, rfl, by simp [bw, aw]⟩, ?_⟩
 rw [ib]
 refine ⟨rfl, ?_⟩
 simp only [rL, ah]
 exact C8 (fin := fun acc j => .ok (node 11 [] 0 0 (ef X.L X.E i) acc) j) hF [o9, Dl] (by simp) (cG _) S rfl O fun acc j ad S O => ej S O
theorem iJ {fu i0 : Nat} {q : List Nd -> Nat -> PR (List Nd)} (hF : fy X fu i0) (h0 : i0 < i) (S : Sk X ay r k i kind text n m at_ l U) (O : Out X r ay R ((cg X.L X.E fu i).bind q))
 (h : ∀ ns j ad, j <= X.L.length -> i < j -> Sk X ay r k j kind text n m at_ (l ++ ns) ad -> Out X r ay R (q ns j) -> K' (.box k 0) ad) :
 ae K 169 [.box r 0] U (ar (fun v U => (aH (some (87, 1)) (some [AV.aT]) 1 false [(0, v)]).wp K U (fun v U => ae K 103 [.box k 0, v] U (ar K' (aa R))) (aa R)) (aa R)) :=
 jI S (hF _ S.hi h0).1 (hF _ S.hi h0).2 O h
theorem Pr {fu : Nat} (hi : i <= X.L.length) (hF : fy X fu i) : Ct X 160 i ((cx X.L yK i).bind fun _ j => (hU X.L j).bind fun x j => (cx X.L yF j).bind fun _ j => (jB X.L j).bind fun n j => (cx X.L cN j).bind fun _ j => (jB X.L j).bind fun m j => (cx X.L ri j).bind fun _ j => (cg X.L X.E fu j).bind fun a j => .ok (node 12 x n m (ef X.L X.E i) a) j) := by
 intro r U R hr O
 refine JT ?_
 unfold JS
 refine fJ hr hi fun k bH S => ?_
 simp only [cW, ah, aU, cD]
 refine dT S O fun _ S O => mB S O fun x _ S O => mC S fun _ S => dT S O fun _ S O => oo S O fun _ _ S O => GR S fun _ S => dT S O fun _ S O => oo S O fun _ _ S O => YS S fun _ S => dT S O fun _ S O => ?_
 exact iJ hF (by omega) S O fun ns j dy hj et S O => ej S O
theorem Mc {fu : Nat} (hi : i <= X.L.length) (hF : fy X fu i) : Ct X 161 i ((cx X.L rZ i).bind fun _ j => (hU X.L j).bind fun x j => (cx X.L ri j).bind fun _ j => (cg X.L X.E fu j).bind fun a j => (cx X.L kT j).bind fun _ j => (cg X.L X.E fu j).bind fun b j => .ok (node 13 x 0 0 (ef X.L X.E i) (a ++ b)) j) := by
 intro r U R hr O
 refine JV ?_
 unfold JU
 refine fJ hr hi fun k bH S => ?_
 simp only [cW, ah, aU, cD]
 refine dT S O fun _ S O => mB S O fun x _ S O => mC S fun _ S => dT S O fun _ S O => ?_
 refine iJ hF (by omega) S O fun ns j dy hj et S O => dT S O fun _ S O => ?_
 exact iJ hF (by omega) S O fun ns j dy hj et S O => ej S O
theorem Hx {fu : Nat} (hi : i <= X.L.length) (hF : fy X fu i) : Ct X 162 i ((cx X.L pT i).bind fun _ j => (cg X.L X.E fu j).bind fun a j => (cx X.L kT j).bind fun _ j => (cg X.L X.E fu j).bind fun b j => .ok (node 15 [] 0 0 (ef X.L X.E i) (a ++ b)) j) := by
 intro r U R hr O
 refine JX ?_
 unfold JW
 refine fJ hr hi fun k bH S => ?_
 refine dT S O fun _ S O => ?_
 refine iJ hF (by omega) S O fun ns j dy hj et S O => dT S O fun _ S O => ?_
 exact iJ hF (by omega) S O fun ns j dy hj et S O => ej S O
theorem IL {fu : Nat} (hi : i <= X.L.length) (hF : fy X fu i) : Ct X 163 i ((cx X.L pV i).bind fun _ j => (hU X.L j).bind fun x j => (cx X.L cN j).bind fun _ j => (jB X.L j).bind fun n j => (cx X.L ri j).bind fun _ j => (cg X.L X.E fu j).bind fun a j => .ok (node 14 x n 0 (ef X.L X.E i) a) j) := by
 intro r U R hr O
 refine JZ ?_
 unfold JY
 refine fJ hr hi fun k bH S => ?_
 simp only [cW, ah, aU, cD]
 refine dT S O fun _ S O => mB S O fun x _ S O => mC S fun _ S => dT S O fun _ S O => oo S O fun _ _ S O => GR S fun _ S => dT S O fun _ S O => ?_
 exact iJ hF (by omega) S O fun ns j dy hj et S O => ej S O
end
end Go.Rip
namespace Go.Rip
open Go.Proofs Go.RowKit
def gB : List (aZ × Nat) := [(pT, 162), (zG, 158), (rZ, 161), (yK, 160), (pV, 163), (o9, 159)]
theorem FD : ru = .dY (gB.map fun p => .str p.1) (gB.map fun p => .func (.func p.2) [] []) := rfl
theorem qm (s : aZ) (z : AV) : ∀ l : List (aZ × AV), jz .s (.str s) z true (l.map fun p => .str p.1) (l.map fun p => p.2) = .val (.aN [match l.find? (fun p => p.1 = s) with | some p => p.2 | none => z, .bool (l.find? (fun p => p.1 = s)).isSome])
 | [] => rfl
 | p :: l => by
   simp only [dN, jz, eR, List.find?_cons]
   by_cases h : s = p.1
   · subst h; simp
   · have h' : ¬ p.1 = s := fun e => h e.symm
     simp only [h', dz]
     rw [show (s == p.1) = false by simp [h]]
     simpa using qm s z l
theorem FB (s : aZ) (U : St) : eM (some (.s, 186)) (some AV.cP) ru (.str s) true U = .val (.aN [match gB.find? (fun p => p.1 = s) with | some p => .func (.func p.2) [] [] | none => .cP, .bool (gB.find? (fun p => p.1 = s)).isSome]) := by
 rw [FD]
 have := qm s .cP (gB.map fun p => (p.1, AV.func (.func p.2) [] []))
 simp only [eM, ju, mQ]
 rw [List.map_map, List.map_map] at this
 rw [show (gB.map fun p => AV.str p.1) = List.map ((fun p : aZ × AV => AV.str p.1) ∘ fun p => (p.1, AV.func (.func p.2) [] [])) gB from rfl, show (gB.map fun p => AV.func (.func p.2) [] []) = List.map ((fun p : aZ × AV => p.2) ∘ fun p => (p.1, AV.func (.func p.2) [] [])) gB from rfl, this]
 congr 2
 rw [List.find?_map]
 have e : ((fun p : aZ × AV => decide (p.1 = s)) ∘ fun p : aZ × Nat => (p.1, AV.func (.func p.2) [] [])) = fun p => decide (p.1 = s) := rfl
 rw [e]
 cases gB.find? fun p => decide (p.1 = s) <;> rfl
theorem Du (o : Option Tk) : Pure K 61 [.agg (nw o)] (.bool (qP o [nP, vL, nO])) := by
 refine Pure.of ?_ rfl (fun U => rfl) fun R hR => ?_
 · cases o <;> rfl
 refine MH ?_
 have ht : (nw o).length = 3 := by cases o <;> rfl
 unfold OC
 rw [eC rfl]
 intro b hb
 rw [show au (.agg (nw o)) = nw o from rfl, nZ aD]
 refine ⟨by simp [ht], ?_⟩
 rw [gq]
 refine ⟨by omega, ?_⟩
 rw [eD (o := 0) (s := 1) rfl]
 refine ⟨⟨rfl, rfl, by simp [bw]⟩, ?_⟩
 rw [eD (o := 1) (s := 1) rfl]
 refine ⟨⟨rfl, rfl, by simp [bw, aw]⟩, ?_⟩
 rw [eD (o := 2) (s := 1) rfl]
 refine ⟨⟨rfl, rfl, by simp [bw, aw]⟩, ?_⟩
 rw [ib]
 refine ⟨rfl, ?_⟩
 rw [dU, qR (by omega)]
 exact wW (c := .full) o [nP, vL, nO] (by simp) fun ad _ => al.mk (hR ad)
theorem PU (L : List Tk) (i : Nat) : qP L[i]? [nP, vL, nO] = Cw L i := by
 unfold qP Cw cr
 cases h : L[i]? with
 | none => rfl
 | some t =>
   simp only [h]
   cases hk : (t.k == 3 || t.k == 4) with
   | false => simp
   | true =>
     simp only [Bool.true_and]
     rw [nf]
     simp [or_assoc]
section
variable {X : Rx} {ay U : St} {r k i : Nat} {R : cu -> St -> Prop} {K' : AV -> St -> Prop} {Kp : AV -> St -> Prop} {f : FuncId}
theorem Uu {gu : FuncId} (he : dj K.P gu = true) {c : List AV} : (fo K.P (.func (.func gu) [] []) [.box r 0]).wp K U K' Kp = ae K gu [.box r 0] U (ar K' Kp) := by
 simp [fo, he]
def Co (X : Rx) (i lev : Nat) (p : PR (List Nd)) : Prop := ∀ (r : Nat) (U : St) (R : cu -> St -> Prop), U.box r = some (rd X i) -> Out X r U R p -> ae K 219 [.box r 0, .int .i64 (lev : Nat)] U R
theorem Py {s : aZ} {p : aZ × Nat} (h : gB.find? (fun p => p.1 = s) = some p) : p ∈ gB /\ p.1 = s := ⟨List.mem_of_find?_eq_some h, by simpa using List.find?_some h⟩
theorem LG {fu : Nat} (hi : i <= X.L.length) (hF : fy X fu i) (hO : Co X i 2 (jC X.L X.E fu 2 i)) : Ct X 169 i (cg X.L X.E (fu + 1) i) := by
 intro r U R hr O
 refine J8 ?_
 unfold J7
 refine mc hr hi 0 (by omega) fun bH e1 => ?_
 rw [Nat.add_zero]
 obtain ⟨kd, s, a, e, hm⟩ := qx X.L[i]?
 rw [e]
 simp only [bz, lR]
 intro b hb
 have Cc := e1.bf hr
 have e2 := e1.new (x := .box [AV.int .u8 0, AV.str [], AV.int .i64 0]) hb
 rw [show NV.at b .box = AV.box b 0 from rfl, cF aD]
 refine ⟨⟨rfl, rfl, by simp⟩, ?_⟩
 have e3 := e2.set (x := .box (aw [AV.int .u8 0, AV.str [], AV.int .i64 0] 0 (au (.agg [.int .u8 kd, .str s, .int .i64 a])))) (e1.fresh hb.1)
 generalize lL : (bH.new b (.box [AV.int .u8 0, AV.str [], AV.int .i64 0])).set b (.box (aw [AV.int .u8 0, AV.str [], AV.int .i64 0] 0 (au (.agg [.int .u8 kd, .str s, .int .i64 a])))) = c7 at e3 ⊢
 have gS : c7.box b = some [.int .u8 kd, .str s, .int .i64 a] := by rw [<- lL, aR]; rfl
 have wb := e3.bf hr
 have A3 : eo r (rd X i) U c7 := .oK hr e3
 replace O := O.fz A3
 have eL : ∀ t, X.L[i]? = some t -> s = t.s /\ kd = t.k := fun t ht => by
  rw [ht] at e; simp only [nw, lP, List.cons.injEq, AV.str.injEq, AV.int.injEq, true_and] at e; exact ⟨e.2.1.symm, e.1.symm⟩
 simp only [cW, aC, aU, oD wb, rd, List.drop, fP, cD, oD gS, FB, bL, aW, aM, mZ]
 have WN : ∀ w ∈ gB.map (·.1), cr X.L i w = true -> kd = 3 /\ s = w := fun w hw h => by
  have : ∀ w ∈ gB.map (·.1), w ∈ nE := by decide
  obtain ⟨t, ht, hk, hs⟩ := PC X.ok (this w hw) h
  obtain ⟨h1, h2⟩ := eL t ht
  exact ⟨by omega, h1.trans hs⟩
 have fin : (¬ (kd = 3 /\ s ∈ gB.map (·.1))) -> (∀ w ∈ gB.map (·.1), cr X.L i w = false) := fun h w hw => by
  cases hx : cr X.L i w with
  | false => rfl
  | true => obtain ⟨h1, h2⟩ := WN w hw hx; exact absurd ⟨h1, h2 ▸ hw⟩ h
 by_cases hc : kd = 3 /\ s ∈ gB.map (·.1)
 · obtain ⟨h3, hs⟩ := hc
   obtain ⟨t, ht, hk, wc⟩ := (hm 3 (by omega)).1 h3
   subst h3
   have Cl : cr X.L i s = true := PD ht (.inl hk) wc
   have bW : ∀ w ∈ gB.map (·.1), w ≠ s -> ¬ (cr X.L i w = true) := fun w hw hn h => hn (WN w hw h).2.symm
   have key : ∃ gu, gB.find? (fun p => p.1 = s) = some (s, gu) /\ dj K.P gu = true /\ ∃ p, Ct X gu i p /\ cg X.L X.E (fu + 1) i = p := by
    have hnd : cx X.L s i = .ok () (i + 1) := by simp [cx, Cl]
    have dw : s ∈ gB.map (·.1) := hs
    simp only [gB, dN, ke, dA, List.not_mem_nil, or_false] at hs
    rcases hs with rfl | rfl | rfl | rfl | rfl | rfl
    · exact ⟨162, rfl, by kernel_rfl, _, Hx hi hF, by rw [cg, if_neg (bW _ (by decide) (by decide)), if_neg (bW _ (by decide) (by decide)), if_neg (bW _ (by decide) (by decide)), if_neg (bW _ (by decide) (by decide)), if_pos Cl, hnd]; rfl⟩
    · exact ⟨158, rfl, by kernel_rfl, _, Hw hi hF, by rw [cg, if_pos Cl, hnd]; rfl⟩
    · exact ⟨161, rfl, by kernel_rfl, _, Mc hi hF, by rw [cg, if_neg (bW _ (by decide) (by decide)), if_neg (bW _ (by decide) (by decide)), if_neg (bW _ (by decide) (by decide)), if_pos Cl, hnd]; rfl⟩
    · exact ⟨160, rfl, by kernel_rfl, _, Pr hi hF, by rw [cg, if_neg (bW _ (by decide) (by decide)), if_neg (bW _ (by decide) (by decide)), if_pos Cl, hnd]; rfl⟩
    · exact ⟨163, rfl, by kernel_rfl, _, IL hi hF, by rw [cg, if_neg (bW _ (by decide) (by decide)), if_neg (bW _ (by decide) (by decide)), if_neg (bW _ (by decide) (by decide)), if_neg (bW _ (by decide) (by decide)), if_neg (bW _ (by decide) (by decide)), if_pos Cl, hnd]; rfl⟩
    · exact ⟨159, rfl, by kernel_rfl, _, PK hi hF, by rw [cg, if_neg (bW _ (by decide) (by decide)), if_pos Cl, hnd]; rfl⟩
   obtain ⟨gu, h1, h2, p, h3, h4⟩ := key
   rw [h1]
   simp only [Option.isSome_some, fK, bZ, aC, kP, oD gS, List.drop, fP, bl, cX, aJ, if_true, ah, bq]
   rw [Uu h2 (c := [])]
   rw [h4] at O
   exact zy h3 wb O
 · have hw := fin hc
   have hf : ∀ w ∈ gB.map (·.1), ¬ (cr X.L i w = true) := fun w h => by rw [hw w h]; simp
   rw [cg, if_neg (hf _ (by decide)), if_neg (hf _ (by decide)), if_neg (hf _ (by decide)), if_neg (hf _ (by decide)), if_neg (hf _ (by decide)), if_neg (hf _ (by decide))] at O
   have XQ : ∀ (c : Option (aZ × Nat)) (A B : Prop), gB.find? (fun p => p.1 = s) = c -> (c.isSome = true -> kd ≠ 3) := fun c A B h1 h2 h3 => by
    cases c with
    | none => cases h2
    | some p => exact hc ⟨h3, by obtain ⟨k1, k2⟩ := Py h1; exact List.mem_map.2 ⟨p, k1, k2⟩⟩
   have sel : ∀ (V : AV) (A B : Prop), B -> az (.bool false) A B := fun _ _ _ hB => by rw [a7]; exact hB
   have rest : gC 2
    (fun v0 hC U =>
      az hC (
    ae K 99 [v0, (AV.int .u8 16)] U (ar (fun jl U =>
    ae K 101 [v0] U (ar (fun lu U =>
    (bh jl).wp K U (fun nx U =>
    (af (some 0) nx).wp K U (fun iz U =>
    (af (some 1) iz).wp K U (fun ov U =>
    (aF (some (false, 1)) ov lu U).wp K U (fun _ U =>
    ae K 102 [v0, (AV.str cN)] U (ar (fun v46 U =>
    ae K 169 [v0] U (ar (fun v49 U =>
    (aH (some (87, 1)) (some [AV.aT]) 1 false [(0, v49)]).wp K U (fun qz U =>
    ae K 103 [jl, qz] U (ar (fun v51 U =>
    al R v51 U) (aa R))) (aa R)) (aa R))) (aa R))) (aa R)) (aa R)) (aa R)) (aa R)) (aa R))) (aa R))) (
    ae K 219 [v0, (AV.int .i64 2)] U (ar (fun v53 U =>
    al R v53 U) (aa R)))) (fun j =>
     aA.wp K c7
      (fun dO U =>
        aA.wp K U
         (fun v30 U =>
           aj K (aI v30 true) (aA.val (AV.box r 0)) fun iQ =>
            az (aI v30 true)
             (ae K 167 [iQ, AV.int IntKind.i64 1] U
               (ar
                 (fun fj U =>
                   aj K (aI v30 true)
                    (aH (some (9, 1)) (some [AV.str []]) 1 false [(0, AV.str cN)]) fun fQ =>
                    aj K (aI v30 true) (aA.enter 121 [fj, fQ]) fun gj =>
                     aA.wp K U (fun nY U => j (AV.box r 0) nY U) (aa R)
                      (bF v30 gj (AV.bool false)))
                 (aa R)))
             (aj K (aI v30 true)
               (aH (some (9, 1)) (some [AV.str []]) 1 false [(0, AV.str cN)]) fun G5 =>
               aj K (aI v30 true) (aA.enter 121 [AV.aN [], G5]) fun yy =>
                aA.wp K U (fun nY U => j (AV.box r 0) nY U) (aa R)
                 (bF v30 yy (AV.bool false))))
         (aa R)
         (av BinOp.eql { b := false, i := false, p := false, f := none, s := false } true dO (AV.int IntKind.u8 1)))
      (aa R) (aq (some (false, 1)) (AV.box b 0) c7)) := by
    intro j hj
    have yes : qM X.L i 1 = true -> cr X.L (i + 1) cN = true -> ∀ cH, eo r (rd X i) c7 cH -> j (.box r 0) (.bool true) cH := fun g1 g2 cH A4 => by
     refine hj _ _ _ ?_
     rw [if_pos ⟨g1, g2⟩] at O
     replace O := O.fz A4
     rw [bq]
     refine fJ A4.box hi fun k dy S => ?_
     simp only [cW, ah, aU, cD]
     refine mB S O fun x _ S O => mC S fun _ S => dT S O fun _ S O => ?_
     exact iJ hF (by omega) S O fun ns j dy hj et S O => ej S O
    have no : ¬ (qM X.L i 1 = true /\ cr X.L (i + 1) cN = true) -> ∀ cH, eo r (rd X i) c7 cH -> j (.box r 0) (.bool false) cH := fun g cH A4 => by
     refine hj _ _ _ ?_
     rw [if_neg g] at O
     replace O := O.fz A4
     rw [a7]
     exact hO r cH _ A4.box ⟨fun ns j e hj a ad hk A => al.mk (O.ok ns j e hj a ad hk A), O.bad⟩
    have pq : qM X.L i 1 = decide (kd = 1) := by
     unfold qM
     cases ht : X.L[i]? with
     | none => rw [ht] at e; simp only [nw, List.cons.injEq, AV.int.injEq, true_and] at e; simp [<- e.1]
     | some t => obtain ⟨_, h2⟩ := eL t ht; rw [h2]; rw [nf]; simp; omega
    rw [fe gS]
    simp only [List.drop, bB, bl, ah, aW]
    by_cases h1 : kd = 1
    · simp only [h1, cX, fK, aM, bZ, aC, kP, bq]
      refine mc wb hi 1 (by omega) fun cH e4 => ?_
      simp only [bz]
      rw [sS]
      refine ⟨by omega, ?_⟩
      rw [oh (o := 0) (s := 1) rfl]
      refine ⟨⟨rfl, rfl, by simp [bw]⟩, ?_⟩
      rw [vG]
      refine ⟨rfl, _, Ga (c := .full) (X.L[i + 1]?) [cN] (by simp) rfl, ?_⟩
      rw [vF]
      simp only [aJ, if_true, ah]
      cases N8 : cr X.L (i + 1) cN with
      | true => exact yes (by rw [pq]; simp [h1]) N8 _ (.oK wb e4)
      | false => exact no (by rw [N8]; simp) _ (.oK wb e4)
    · have BU : (decide (kd = 1) == true) = false := by simp [h1]
      simp only [BU, aM, cc, a7, h1, dz, aJ, bu, if_false, ah]
      simp only [beq_true, cc, a7]
      exact no (by rw [pq]; simp [h1]) _ ⟨wb, gr.refl _ _⟩
   cases pk : gB.find? (fun p => p.1 = s) with
   | none =>
     simp only [Option.isSome_none, cc, show (false == true) = false from rfl, aJ, bu, if_false, ah, a7]
     exact rest
   | some p =>
     have h3 : ¬ kd = 3 := XQ _ True True pk rfl
     simp only [Option.isSome_some, fK, bZ, aC, kP, oD gS, List.drop, fP, bl, h3, dz, aJ, if_true, ah, a7]
     exact rest
end
end Go.Rip
namespace Go.Rip
open Go.Proofs Go.RowKit
def rP (lev : Nat) : List (aZ × Int) :=
 if lev = 2 then [(He, 17)] else if lev = 3 then [(Bf, 18)] else if lev = 5 then [(yG, 21), (yH, 20)] else if lev = 6 then [(yC, 22), (yE, 23)] else if lev = 7 then [(yB, 24)] else if lev = 8 then [(G8, 25)] else []
def Ol (lev : Nat) : AV := .dY ((rP lev).map fun p => .str p.1) ((rP lev).map fun p => .int .u8 p.2)
theorem Mn (lev : Nat) (h : lev = 2 \/ lev = 3 \/ lev = 5 \/ lev = 6 \/ lev = 7 \/ lev = 8) (U : St) : eM (some (.i, 185)) (some AV.jf) CR (.int .i64 (lev : Nat)) false U = .val (Ol lev) := by
 rcases h with rfl | rfl | rfl | rfl | rfl | rfl <;> rfl
theorem Mo (lev : Nat) (s : aZ) (U : St) : eM (some (.s, 5)) (some (AV.int .u8 0)) (Ol lev) (.str s) true U = .val (.aN [.int .u8 (match (rP lev).find? (fun p => p.1 = s) with | some p => p.2 | none => 0), .bool ((rP lev).find? (fun p => p.1 = s)).isSome]) := by
 have := qm s (.int .u8 0) ((rP lev).map fun p => (p.1, AV.int .u8 p.2))
 rw [List.map_map, List.map_map, List.find?_map] at this
 simp only [eM, ju, mQ, Ol]
 rw [show ((rP lev).map fun p => AV.str p.1) = List.map ((fun p : aZ × AV => AV.str p.1) ∘ fun p => (p.1, AV.int .u8 p.2)) (rP lev) from rfl, show ((rP lev).map fun p => AV.int .u8 p.2) = List.map ((fun p : aZ × AV => p.2) ∘ fun p => (p.1, AV.int .u8 p.2)) (rP lev) from rfl, this]
 have e : ((fun p : aZ × AV => decide (p.1 = s)) ∘ fun p : aZ × Int => (p.1, AV.int .u8 p.2)) = fun p => decide (p.1 = s) := rfl
 rw [e]
 cases (rP lev).find? fun p => decide (p.1 = s) <;> rfl
theorem EV (L : List Tk) (lev i : Nat) : CP L lev i = ((rP lev).find? (fun p => p.1 = nL L[i]?)).map (·.2) := by
 have hw : ∀ w : aZ, w ≠ [] -> cr L i w = decide (w = nL L[i]?) := fun w h => by rw [Ak h]; simp [eq_comm]
 unfold CP rP
 rw [hw He (by decide), hw Bf (by decide), hw yH (by decide), hw yG (by decide), hw yC (by decide), hw yE (by decide), hw yB (by decide), hw G8 (by decide)]
 generalize nL L[i]? = s
 repeat' split
 all_goals simp_all
 all_goals (subst_vars; rfl)
section
variable {X : Rx} {ay U : St} {r k i : Nat} {kind : Int} {text : aZ} {n m at_ : Int} {l : List Nd} {R : cu -> St -> Prop} {K' : AV -> St -> Prop} {Kp : AV -> St -> Prop}
theorem Fb (hr : U.box r = some (rd X i)) (hi : i <= X.L.length) (h : ∀ ad, cm U ad -> R (.ret (.str (nL X.L[i]?))) ad) : ae K 253 [.box r 0] U R := by
 refine KJ ?_
 unfold KI
 refine mc hr hi 0 (by omega) fun bH e1 => ?_
 rw [Nat.add_zero]
 have lT : ∃ kd s a, nw X.L[i]? = [.int .u8 kd, .str s, .int .i64 a] /\ nL X.L[i]? = if kd = 3 \/ kd = 4 then s else [] := by
  cases ht : X.L[i]? with
  | none => exact ⟨0, [], 0, rfl, rfl⟩
  | some t =>
    refine ⟨t.k, t.s, t.at_, rfl, ?_⟩
    have e3 : ((t.k : Int) = 3) = (t.k = 3) := by simp; omega
    have e4 : ((t.k : Int) = 4) = (t.k = 4) := by simp; omega
    simp only [nL, e3, e4]
 obtain ⟨kd, s, a, e, hsg⟩ := lT
 rw [e]
 rw [hsg] at h
 simp only [bz, lR]
 intro b hb
 have e2 := e1.new (x := .box [AV.int .u8 0, AV.str [], AV.int .i64 0]) hb
 rw [show NV.at b .box = AV.box b 0 from rfl, cF aD]
 refine ⟨⟨rfl, rfl, by simp⟩, ?_⟩
 have e3 := e2.set (x := .box (aw [AV.int .u8 0, AV.str [], AV.int .i64 0] 0 (au (.agg [.int .u8 kd, .str s, .int .i64 a])))) (e1.fresh hb.1)
 generalize lL : (bH.new b (.box [AV.int .u8 0, AV.str [], AV.int .i64 0])).set b (.box (aw [AV.int .u8 0, AV.str [], AV.int .i64 0] 0 (au (.agg [.int .u8 kd, .str s, .int .i64 a])))) = c7 at e3 ⊢
 have gS : c7.box b = some [.int .u8 kd, .str s, .int .i64 a] := by rw [<- lL, aR]; rfl
 simp only [aU, ah, fe gS, List.drop, bB, cD, bl, aW, aM, mZ, bZ]
 by_cases h3 : kd = 3
 · subst h3
   simp [fe gS, bB]
   exact al.mk (h _ e3)
 · by_cases h4 : kd = 4
   · subst h4
     simp [fe gS, oD gS, bB]
     exact al.mk (h _ e3)
   · simp [fe gS, oD gS, bB, h3, h4]
     refine al.mk ?_
     have := h _ e3
     rw [if_neg (by omega)] at this
     exact this
theorem KV (S : Sk X ay r k i kind text n m at_ l U) (aK : i < X.L.length) {bt : BT} {lit : Bool} (h : ∀ ad, Sk X ay r k (i + 1) kind text n m at_ l ad -> K' (.aN []) ad) :
 (aq (some (false, 1)) (.box r 1) U).wp K U (fun v U => (av .add bt lit v (.int .i64 1)).wp K U (fun v U => (aF (some (false, 1)) (.box r 1) v U).wp K U K' Kp) Kp) Kp := by
 have hs := X.small
 have hr := S.A.box
 simp only [fe hr, rd, List.drop, bB, c8]
 refine ⟨aX (by omega) (by omega), ?_⟩
 rw [cF hr]
 refine ⟨⟨rfl, rfl, by simp [rd]⟩, h _ (S.fz (j := i + 1) ⟨?_, (gr.refl r U).set (.inr rfl)⟩ aK (by omega))⟩
 rw [aR]; simp [aw, rd]
theorem dJ.ne_nil : ∀ {b : Bool} {ks : List AV} {l : List Nd}, dJ b ks l -> b = true -> l = [] -> ks = [] := by
 have h1 : ∀ {b : Bool} {ks : List AV} {l : List Nd}, dJ b ks l -> b = false -> l ≠ [] := fun h e => by
  cases h with
  | mk _ _ => simp [node]
  | nil => cases e
  | cons _ _ => cases e
 intro b ks l h e hl
 cases h with
 | mk _ _ => cases e
 | nil => rfl
 | cons a c => exact absurd (List.append_eq_nil_iff.1 hl).1 (h1 a rfl)
theorem dJ.cC {a : AV} {ns : List Nd} (hk : dJ false [a] ns) : a.cC = true /\ au a = [a] := by
 generalize hb : false = b at hk
 generalize hl : [a] = la at hk
 cases hk with
 | mk _ _ => cases hl; exact ⟨rfl, rfl⟩
 | nil => cases hl
 | cons _ _ => cases hb
theorem C7 {a : AV} {ns : List Nd} (S : Sk X ay r k i kind text n m at_ [] U) (hk : dJ false [a] ns) (h : ∀ a' ad, dJ false [a'] (node kind text n m at_ ns) -> eo r (rd X i) ay ad -> K' a' ad) :
 (aH (some (87, 1)) (some [AV.aT]) 1 false [(0, a)]).wp K U (fun v U => ae K 103 [.box k 0, v] U (ar K' Kp)) Kp := by
 obtain ⟨ks, h1, h2, h3⟩ := S.M
 have := h2.ne_nil rfl rfl
 subst this
 rw [gq]
 refine ⟨by omega, ?_⟩
 rw [eD (o := 0) (s := 1) rfl]
 refine ⟨⟨hk.cC.1, by rw [hk.cC.2]; rfl, by simp [bw]⟩, ?_⟩
 rw [ib, hk.cC.2]
 refine ⟨rfl, ?_⟩
 exact Fj (l2 := [a]) h1 S.A (by omega) rfl (by simp) fun ad M A => M.done (h2.snoc hk) A fun a' ad hk A => h a' ad hk A
theorem M4 {a b : AV} {ns ms : List Nd} (S : Sk X ay r k i kind text n m at_ [] U) (hk : dJ false [a] ns) (eK : dJ false [b] ms) (h : ∀ a' ad, dJ false [a'] (node kind text n m at_ (ns ++ ms)) -> eo r (rd X i) ay ad -> K' a' ad) :
 (aH (some (87, 1)) (some [AV.aT]) 2 false [(0, a), (1, b)]).wp K U (fun v U => ae K 103 [.box k 0, v] U (ar K' Kp)) Kp := by
 obtain ⟨ks, h1, h2, h3⟩ := S.M
 have := h2.ne_nil rfl rfl
 subst this
 rw [gq]
 refine ⟨by omega, ?_⟩
 rw [eD (o := 0) (s := 1) rfl]
 refine ⟨⟨hk.cC.1, by rw [hk.cC.2]; rfl, by simp [bw]⟩, ?_⟩
 rw [hk.cC.2]
 rw [eD (o := 1) (s := 1) rfl]
 refine ⟨⟨eK.cC.1, by rw [eK.cC.2]; rfl, by simp [bw, aw]⟩, ?_⟩
 rw [ib, eK.cC.2]
 refine ⟨rfl, ?_⟩
 exact Fj (l2 := [a, b]) h1 S.A (by omega) rfl (by simp) fun ad M A => M.done (by simpa using (h2.snoc hk).snoc eK) A fun a' ad hk A => h a' ad hk A
def Bm (X : Rx) (fu : Nat) : Prop := ∀ f', f' <= fu -> ∀ j lev, j <= X.L.length -> 2 <= lev -> lev <= 9 -> 40 * (X.L.length - j) + (11 - lev) <= f' -> Co X j lev (jC X.L X.E f' lev j) /\ Gd X.L.length (j + 1) j (jC X.L X.E f' lev j)
theorem P5 {fu lev : Nat} (hi : i <= X.L.length) (h2 : 2 <= lev) (h9 : lev <= 9) (hf : 40 * (X.L.length - i) + (11 - lev) <= fu + 1) (hA : lev = 9 -> Ct X 252 i (sf X.L X.E fu i)) (hS : Bm X fu) : Co X i lev (jC X.L X.E (fu + 1) lev i) := by
 intro r U R hr O
 refine Kw ?_
 unfold Kv
 have hs := X.small
 simp only [bl, ah, bE]
 refine ⟨fun e9 => ?_, fun n9 => ⟨fun e4 => ?_, fun n4 => ?_⟩⟩
 · have e9 : lev = 9 := by omega
   rw [jC, if_pos e9] at O
   exact zy (hA e9) hr O
 · have e4 : lev = 4 := by omega
   have n9 : ¬ lev = 9 := by omega
   rw [jC, if_neg n9, if_pos e4] at O
   refine fJ hr hi fun k bH S => ?_
   refine yq S (fun hw bJ S => ?_) fun hw bJ S => ?_
   · rw [if_pos hw] at O
     simp only [bq]
     have aK := cU hw
     obtain ⟨g1, g2⟩ := hS fu (cG _) (i + 1) 4 aK (by omega) (by omega) (by omega)
     refine g1 r bJ _ S.A.box ⟨fun ns j e hj a ad hk A => ?_, fun j e ad A => O.bad j (by rw [e]; rfl) ad (S.A.trans A)⟩
     rw [e] at g2 O
     have et : i + 1 < j := g2.1
     refine C7 (S.fz A hj (by omega)) hk fun a' ad Ep A' => ?_
     exact al.mk (O.ok _ _ rfl hj a' ad Ep A')
   · rw [if_neg (by rw [hw]; simp)] at O
     simp only [a7, c8]
     refine ⟨aX (by omega) (by omega), ?_⟩
     obtain ⟨g1, g2⟩ := hS fu (cG _) i 5 hi (by omega) (by omega) (by omega)
     subst e4
     refine g1 r bJ _ S.A.box ?_
     replace O := O.fz S.A
     exact ⟨fun ns j e hj a ad hk A => al.mk (O.ok ns j e hj a ad hk A), O.bad⟩
 · have n9 : ¬ lev = 9 := by omega
   have n4 : ¬ lev = 4 := by omega
   rw [jC, if_neg n9, if_neg n4] at O
   rw [c8]
   refine ⟨aX (by omega) (by omega), ?_⟩
   obtain ⟨g1, g2⟩ := hS fu (cG _) i (lev + 1) hi (by omega) (by omega) (by omega)
   rw [show ((lev : Nat) : Int) + 1 = ((lev + 1 : Nat) : Int) by omega]
   refine g1 r U _ hr ⟨fun ns j e hj a bH hk A => ?_, fun j e ad A => O.bad j (by rw [e]; rfl) ad A⟩
   rw [e] at g2 O
   have et : i < j := g2.1
   replace O : Out X r bH R (sL X.L X.E fu lev ns j) := Out.fz O A
   refine ⟨fun mm v0 v1 v6 ad => ∃ left j f', mm = X.L.length - j /\ v0 = .box r 0 /\ v1 = .int .i64 (lev : Nat) /\ j <= X.L.length /\ i < j /\ 40 * (X.L.length - j) + 1 <= f' /\ f' <= fu /\ dJ false [v6] left /\ ad.box r = some (rd X j) /\ Out X r ad R (sL X.L X.E f' lev left j),
    ⟨_, ns, j, fu, rfl, rfl, rfl, hj, et, by omega, cG _, hk, A.box, O⟩, ?_⟩
   clear hk A O et hj e g1 g2
   rintro mm v0 v1 v6 bJ ⟨left, j, f', rfl, rfl, rfl, hj, et, NL, R4, hk, px, O⟩
   cases f' with
   | zero => omega
   | succ f' =>
     rw [sL, EV] at O
     simp only [cW, aC, aU, cD, oD px, rd, List.drop, fP, Mn lev (by omega)]
     refine Fb px hj fun c7 e3 => ?_
     simp only [bz]
     refine ⟨?_, ?_, ?_⟩
     · intro b hb
       simp only [bV, CR, gH, iI, kM, dA, List.not_mem_nil, or_false] at hb
       subst hb
       cases e : bJ.live b with
       | none => exact absurd e (bR px)
       | some x => exact e3 b x e
     · intro b hb
       simp [bV, Ol] at hb
     simp only [Mo, aC, bL, List.drop, fP, dt, ah]
     have A3 : eo r (rd X j) bJ c7 := .oK px e3
     cases hop : (rP lev).find? fun p => p.1 = nL X.L[j]? with
     | none =>
       rw [hop] at O
       simp only [Option.isSome_none, dR, bq]
       exact al.mk (O.ok _ _ rfl hj _ c7 hk A3)
     | some p =>
       rw [hop] at O
       replace O := O.fz A3
       simp only [Option.isSome_some, cq, a7]
       have aK : j < X.L.length := EW (lev := lev) (k := p.2) (by rw [EV, hop]; rfl)
       refine fJ A3.box hj fun k cH S => ?_
       simp only [cW, ah, aU, cD]
       refine KV S aK fun dy S => ?_
       simp only [bl, ah, bE]
       simp only [Option.map_some] at O
       refine ⟨fun e8 => ?_, fun n8 => ?_⟩
       · have e8 : lev = 8 := by omega
         rw [if_pos e8] at O
         refine oo S O fun x ny S O => GR S fun gz S => ?_
         have gK := S.hi
         refine C7 S hk fun a' ad Ep A' => ?_
         exact ⟨_, by omega, _, j + 1 + 1, f', rfl, rfl, rfl, S.hi, by omega, by omega, by omega, Ep, A'.box, O.fz A'⟩
       · have n8 : ¬ lev = 8 := by omega
         rw [if_neg n8] at O
         simp only [c8]
         refine ⟨aX (by omega) (by omega), ?_⟩
         obtain ⟨g1, g2⟩ := hS f' (by omega) (j + 1) (lev + 1) aK (by omega) (by omega) (by omega)
         rw [show ((lev : Nat) : Int) + 1 = ((lev + 1 : Nat) : Int) by omega]
         refine g1 r dy _ S.A.box ⟨fun ns j2 e po b ny WL A => ?_, fun j e ad A => O.bad j (by rw [e]; rfl) ad (S.A.trans A)⟩
         rw [e] at g2 O
         have zc : j + 1 < j2 := g2.1
         refine M4 (S.fz A po (by omega)) hk WL fun a' ad Ep A' => ?_
         replace O : Out X r c7 R (if lev = 5 then .ok (node p.2 [] 0 0 (ef X.L X.E j) (left ++ ns)) j2 else sL X.L X.E f' lev (node p.2 [] 0 0 (ef X.L X.E j) (left ++ ns)) j2) := O
         refine ⟨fun e5 => ?_, fun n5 => ?_⟩
         · rw [if_pos (by omega)] at O
           exact al.mk (O.ok _ _ rfl po a' ad Ep A')
         · rw [if_neg (by omega)] at O
           exact ⟨_, by omega, _, j2, f', rfl, rfl, rfl, po, by omega, by omega, by omega, Ep, A'.box, O.fz A'⟩
end
end Go.Rip
namespace Go.Rip
open Go.Proofs Go.RowKit
theorem dJ.size {a : AV} {l : List Nd} (h : dJ false [a] l) : ∃ x r, l = x :: r /\ x.size = (l.length : Int) := by
 generalize hb : false = b at h
 generalize hl : [a] = la at h
 cases h with
 | mk _ _ => exact ⟨_, _, rfl, by simp [node]⟩
 | nil => cases hl
 | cons _ _ => cases hb
theorem dJ.count : ∀ {ks ks' : List AV} {l : List Nd}, dJ true ks l -> dJ true ks' l -> ks.length = ks'.length
 | [], ks', l, h, h' => by
   have : l = [] := by
    generalize hb : true = b at h
    generalize hl : ([] : List AV) = la at h
    cases h with
    | mk _ _ => cases hb
    | nil => rfl
    | cons _ _ => cases hl
   rw [h'.ne_nil rfl this]
 | a :: ks, ks', l, h, h' => by
   generalize hb : true = b at h
   generalize hl : a :: ks = la at h
   cases h with
   | mk _ _ => cases hb
   | nil => cases hl
   | @cons a1 ks1 l1 l2 h1 h2 =>
     cases hl
     obtain ⟨x, r, e1, e2⟩ := h1.size
     generalize B4 : l1 ++ l2 = ll at h'
     generalize cZ : true = b' at h'
     cases h' with
     | mk _ _ => cases cZ
     | nil => rw [e1] at B4; cases B4
     | @cons a3 ks3 l3 l4 h3 h4 =>
       obtain ⟨y, r', e3, e4⟩ := h3.size
       have we : x = y := by rw [e1, e3] at B4; simpa using congrArg List.head? B4
       have hlen : l1.length = l3.length := by rw [we] at e2; omega
       obtain ⟨_, ZB⟩ := List.append_inj B4 hlen
       subst ZB
       simp [dJ.count h2 h4]
section
variable {X : Rx} {ay U : St} {r k i : Nat} {kind : Int} {text : aZ} {n m at_ : Int} {l : List Nd} {R : cu -> St -> Prop} {K' : AV -> St -> Prop} {Kp : AV -> St -> Prop} {w : aZ}
theorem M5 {q : Unit -> Nat -> PR (List Nd)} (hr : U.box r = some (rd X i)) (hi : i <= X.L.length) (O : Out X r U R ((cx X.L w i).bind q)) (h : ∀ ad, i + 1 <= X.L.length -> eo r (rd X (i + 1)) U ad -> Out X r ad R (q () (i + 1)) -> K' (.aN []) ad) : ae K 102 [.box r 0, .str w] U (ar K' (aa R)) :=
 zl hr hi w (fun e hl ad A => h ad hl A (by rw [e] at O; exact Out.fz O A)) fun e ad A => O.bad _ (by rw [e]; rfl) _ A
theorem zz (S : Sk X ay r k i kind text n m at_ l U) (hb : cr X.L i w = true) (h : ∀ ad, Sk X ay r k (i + 1) kind text n m at_ l ad -> K' (.aN []) ad) : ae K 102 [.box r 0, .str w] U (ar K' Kp) :=
 zl S.A.box S.hi w (fun e hl ad A => h ad (S.fz A hl (by omega))) fun e ad A => by simp [cx, hb] at e
structure Below (X : Rx) (fu : Nat) : Prop where
 term : ∀ f', f' <= fu -> ∀ j, j <= X.L.length -> 40 * (X.L.length - j) + 11 <= f' -> Ct X 109 j (tc X.L X.E f' j)
 first : ∀ f', f' <= fu -> ∀ j, j <= X.L.length -> 40 * (X.L.length - j) + 10 <= f' -> Ct X 169 j (cg X.L X.E f' j)
 oper : ∀ f', f' <= fu -> ∀ j lev, j <= X.L.length -> 2 <= lev -> lev <= 9 -> 40 * (X.L.length - j) + (11 - lev) <= f' -> Co X j lev (jC X.L X.E f' lev j)
 atom : ∀ f', f' <= fu -> ∀ j, j <= X.L.length -> 40 * (X.L.length - j) + 1 <= f' -> Ct X 252 j (sf X.L X.E f' j)
 arg : ∀ f', f' <= fu -> ∀ j, j <= X.L.length -> 40 * (X.L.length - j) + 12 <= f' -> Ct X 269 j (nB X.L X.E f' j)
theorem Below.HI {fu i : Nat} (B : Below X fu) (hf : 40 * (X.L.length - i) + 10 <= fu + 40) : fy X fu i := fun j hj et =>
 ⟨B.first fu (cG _) j hj (by omega), (y9 fu).2.2.1 j hj (by omega)⟩
theorem Below.ops {fu : Nat} (B : Below X fu) : Bm X fu := fun f' hf j lev hj h2 h9 he => ⟨B.oper f' hf j lev hj h2 h9 he, (y9 f').2.2.2.1 j lev hj h9 he⟩
theorem Pj {fu : Nat} (B : Below X fu) (he : 40 * (X.L.length - i) + 12 <= fu) {q : List Nd -> Nat -> PR (List Nd)} (S : Sk X ay r k i kind text n m at_ l U) (O : Out X r ay R ((nB X.L X.E fu i).bind fun a j => (oO X.L X.E fu a j).bind q))
 (h : ∀ ns j ad, j <= X.L.length -> i < j -> Sk X ay r k j kind text n m at_ (l ++ ns) ad -> Out X r ay R (q ns j) -> K' (.aN []) ad) : ae K 106 [.box r 0, .box k 0, .func (.func 269) [.box r 0] []] U (ar K' (aa R)) := by
 refine AD ?_
 unfold C1
 have iL : dj K.P 269 = true := by kernel_rfl
 rw [Bh iL (c := [])]
 simp only [yg]
 have C : ∀ f', f' <= fu -> ∀ j, j <= X.L.length -> 40 * (X.L.length - j) + 12 <= f' -> Ct X 269 j (nB X.L X.E f' j) /\ Gd X.L.length (j + 1) j (nB X.L X.E f' j) := fun f' h1 j h2 h3 => ⟨B.arg f' h1 j h2 h3, (y9 f').2.2.2.2.2.2.2 j h2 h3⟩
 obtain ⟨c1, c2⟩ := C fu (cG _) i S.hi he
 refine jI S c1 c2 O fun ns j bH hj et S1 O1 => ?_
 refine ⟨fun mm v0 v1 v2 ad => ∃ acc j f', mm = X.L.length - j /\ v0 = .box r 0 /\ v1 = .box k 0 /\ v2 = .func (.func 269) [.box r 0] [] /\ j <= X.L.length /\ i < j /\ 40 * (X.L.length - j) + 1 <= f' /\ f' <= fu /\ Sk X ay r k j kind text n m at_ (l ++ acc) ad /\ Out X r ay R ((oO X.L X.E f' acc j).bind q),
  ⟨_, ns, j, fu, rfl, rfl, rfl, rfl, hj, et, by omega, cG _, S1, O1⟩, ?_⟩
 rintro mm v0 v1 v2 bJ ⟨acc, j2, f', rfl, rfl, rfl, rfl, po, zc, R4, hf3, S2, O2⟩
 cases f' with
 | zero => omega
 | succ f' =>
   rw [oO] at O2
   refine yq S2 (fun hw c7 S3 => ?_) (fun hw c7 S3 => ?_)
   · simp only [bq]
     rw [if_pos hw] at O2
     have aK := cU hw
     rw [Bh iL (c := [])]
     have e2 : ((nB X.L X.E f' (j2 + 1)).bind fun b j => oO X.L X.E f' (acc ++ b) j).bind q = (nB X.L X.E f' (j2 + 1)).bind fun b j => (oO X.L X.E f' (acc ++ b) j).bind q := by
      cases nB X.L X.E f' (j2 + 1) <;> rfl
     rw [e2] at O2
     obtain ⟨c1, c2⟩ := C f' (by omega) _ aK (by omega)
     refine jI S3 c1 c2 O2 fun SX j3 cH Sa X8 S4 O4 => ?_
     exact ⟨_, by omega, acc ++ SX, j3, f', rfl, rfl, rfl, rfl, Sa, by omega, by omega, by omega, by rw [<- kf]; exact S4, O4⟩
   · simp only [a7]
     rw [if_neg (by rw [hw]; simp)] at O2
     exact al.mk (h acc j2 c7 po zc S3 O2)
theorem Rr {fu : Nat} (B : Below X fu) (hi : i <= X.L.length) (he : 40 * (X.L.length - i) + 12 <= fu + 1) : Ct X 269 i (nB X.L X.E (fu + 1) i) := by
 intro r U R hr O
 refine KL ?_
 unfold KK
 rw [nB] at O
 have hs := X.small
 have hF := B.HI (i := i) (by omega)
 refine KW hr hi fun b bH hb A1 => ?_
 replace O := O.fz A1
 cases b with
 | true =>
   simp only [bq]
   rw [if_pos hb] at O
   refine fJ A1.box hi fun k bJ S => ?_
   refine zz S hb fun c7 S => dT S O fun c7 S O => ?_
   refine PJ (by kernel_rfl) (fun i hi => Ec hi) (fun i hi => sg hi) (by omega) (by omega) S O fun ns j cH hj et S O => ?_
   refine dT S O fun dy S O => ?_
   exact iJ hF (by omega) S O fun ns j dy hj et S O => ej S O
 | false =>
   simp only [a7]
   rw [if_neg (by rw [hb]; simp)] at O
   refine KW A1.box hi fun b2 bJ jO A2 => ?_
   replace O := O.fz A2
   cases b2 with
   | true =>
     simp only [bq]
     rw [if_pos jO] at O
     refine fJ A2.box hi fun k bJ S => ?_
     refine zz S jO fun c7 S => dT S O fun c7 S O => ?_
     refine iJ hF (by omega) S O fun ns j dy hj et S O => dT S O fun _ S O => dT S O fun _ S O => ?_
     refine jI S (Ec S.hi) (sg S.hi) O fun ns j dy hj et S O => dT S O fun _ S O => ?_
     exact iJ hF (by omega) S O fun ns j dy hj et S O => dT S O fun _ S O => ej S O
   | false =>
     simp only [a7]
     rw [if_neg (by rw [jO]; simp)] at O
     exact zy (B.term fu (cG _) i hi (by omega)) A2.box O
end
end Go.Rip
namespace Go.Rip
open Go.Proofs Go.RowKit
theorem mw {U : St} {b : Nat} {ks vs : List AV} : (U.set b (.mp ks vs)).mp b = some (ks, vs) := by simp [St.mp, dL]
theorem IF {U : St} {b : Nat} {ks vs : List AV} : (U.new b (.mp ks vs)).mp b = some (ks, vs) := by simp [St.mp, lZ]
theorem Gr {U ad : St} {b : Nat} (h : ad.live b = U.live b) : ad.mp b = U.mp b := by simp [St.mp, h]
theorem cm.mp {U ad : St} {b : Nat} {x : List AV × List AV} (h : cm U ad) (k : U.mp b = some x) : ad.mp b = some x := by
 cases e : U.live b with
 | none => simp [St.mp, e] at k
 | some y => rw [Gr ((h b y e).trans e.symm)]; exact k
theorem r9 {C : bX} {U : St} {K' : AV -> St -> Prop} {Kp : AV -> St -> Prop} {m : Nat} {ks vs ks' vs' : List AV} {s : aZ} {v : AV} {t : TypeId} (h : U.mp m = some (ks, vs)) (hf : iU .s (.str s) ks 0 = some none) (hi : eF (.str s) v ks vs = (ks', vs')) :
 (gD (some (.s, t)) (.mp m) (.str s) v U).wp C U K' Kp = K' (.aN []) (U.set m (.mp ks' vs')) := by
 simp only [gD, h, hf, mQ, hi]; rfl
def n6 : List (aZ × Int) := [(o3, 32), (fV, 28), (kU, 30), (nk, 31), (jo, 29), (fH, 27)]
theorem Pm (s : aZ) {U : St} {m : Nat} (h : U.mp m = some (n6.map fun p => .str p.1, n6.map fun p => .int .u8 p.2)) : eM (some (.s, 5)) (some (AV.int .u8 0)) (.mp m) (.str s) true U = .val (.aN [.int .u8 (match n6.find? (fun p => p.1 = s) with | some p => p.2 | none => 0), .bool (n6.find? (fun p => p.1 = s)).isSome]) := by
 have := qm s (.int .u8 0) (n6.map fun p => (p.1, AV.int .u8 p.2))
 rw [List.map_map, List.map_map, List.find?_map] at this
 simp only [eM, ju, mQ, h]
 rw [show (n6.map fun p => AV.str p.1) = List.map ((fun p : aZ × AV => AV.str p.1) ∘ fun p => (p.1, AV.int .u8 p.2)) n6 from rfl, show (n6.map fun p => AV.int .u8 p.2) = List.map ((fun p : aZ × AV => p.2) ∘ fun p => (p.1, AV.int .u8 p.2)) n6 from rfl, this]
 have e : ((fun p : aZ × AV => decide (p.1 = s)) ∘ fun p : aZ × Int => (p.1, AV.int .u8 p.2)) = fun p => decide (p.1 = s) := rfl
 rw [e]
 cases n6.find? fun p => decide (p.1 = s) <;> rfl
section
variable {X : Rx} {ay U : St} {r k i : Nat} {kind : Int} {text : aZ} {n m at_ : Int} {l : List Nd} {R : cu -> St -> Prop} {K' : AV -> St -> Prop} {Kp : AV -> St -> Prop} {w : aZ}
theorem Pn {fu : Nat} (B : Below X fu) (hi : i <= X.L.length) (he : 40 * (X.L.length - i) + 1 <= fu + 1) : Ct X 252 i (sf X.L X.E (fu + 1) i) := by
 intro r U R hr O
 refine KH ?_
 unfold KG
 have hs := X.small
 rw [lR]
 intro mm WT
 have e1 : cm U (U.new mm (.mp [] [])) := (cm.refl U).new WT
 have hn := WT.1
 rw [show NV.at mm .mp = AV.mp mm from rfl]
 generalize L6 : U.new mm (.mp [] []) = bH at e1 ⊢
 have m1 : bH.mp mm = some ([], []) := by rw [<- L6]; exact IF
 rw [r9 (ks' := [.str fH]) (vs' := [.int .u8 27]) m1 rfl rfl]
 rw [r9 (ks' := [.str fV, .str fH]) (vs' := [.int .u8 28, .int .u8 27]) mw rfl rfl]
 rw [r9 (ks' := [.str fV, .str jo, .str fH]) (vs' := [.int .u8 28, .int .u8 29, .int .u8 27]) mw rfl rfl]
 rw [r9 (ks' := [.str fV, .str kU, .str jo, .str fH]) (vs' := [.int .u8 28, .int .u8 30, .int .u8 29, .int .u8 27]) mw rfl rfl]
 rw [r9 (ks' := [.str fV, .str kU, .str nk, .str jo, .str fH]) (vs' := [.int .u8 28, .int .u8 30, .int .u8 31, .int .u8 29, .int .u8 27]) mw rfl rfl]
 rw [r9 (ks' := [.str o3, .str fV, .str kU, .str nk, .str jo, .str fH]) (vs' := [.int .u8 32, .int .u8 28, .int .u8 30, .int .u8 31, .int .u8 29, .int .u8 27]) mw rfl rfl]
 have e2 := (((((e1.set (x := .mp [.str fH] [.int .u8 27]) hn).set (x := .mp [.str fV, .str fH] [.int .u8 28, .int .u8 27]) hn).set (x := .mp [.str fV, .str jo, .str fH] [.int .u8 28, .int .u8 29, .int .u8 27]) hn).set (x := .mp [.str fV, .str kU, .str jo, .str fH] [.int .u8 28, .int .u8 30, .int .u8 29, .int .u8 27]) hn).set (x := .mp [.str fV, .str kU, .str nk, .str jo, .str fH] [.int .u8 28, .int .u8 30, .int .u8 31, .int .u8 29, .int .u8 27]) hn).set (x := .mp [.str o3, .str fV, .str kU, .str nk, .str jo, .str fH] [.int .u8 32, .int .u8 28, .int .u8 30, .int .u8 31, .int .u8 29, .int .u8 27]) hn
 generalize L7 : ((((((bH.set mm (.mp [.str fH] [.int .u8 27])).set mm _).set mm _).set mm _).set mm _).set mm _) = bJ at e2 ⊢
 have m2 : bJ.mp mm = some (n6.map fun p => .str p.1, n6.map fun p => .int .u8 p.2) := by rw [<- L7]; exact mw
 have px := e2.bf hr
 refine Fb px hi fun c7 e3 => ?_
 simp only [bz, Pm _ (e3.mp m2), ah, bL, List.drop, bB]
 have A3 : eo r (rd X i) U c7 := .oK hr (e2.trans e3)
 replace O := O.fz A3
 have hw : ∀ w : aZ, w ≠ [] -> cr X.L i w = decide (w = nL X.L[i]?) := fun w h => by rw [Ak h]; simp [eq_comm]
 rw [sf, hw fH (by decide), hw fV (by decide), hw jo (by decide), hw kU (by decide), hw nk (by decide), hw o3 (by decide)] at O
 simp only [dD] at O
 cases xK : n6.find? fun p => p.1 = nL X.L[i]? with
 | some p =>
   simp only [Option.isSome_some, bq]
   have hp : p ∈ n6 := List.mem_of_find?_eq_some xK
   have N2 : p.1 = nL X.L[i]? := by simpa using List.find?_some xK
   have bW : p.1 ≠ [] := by
    have : ∀ p ∈ n6, p.1 ≠ [] := by decide
    exact this p hp
   have aK : i < X.L.length := cU (w := p.1) (by rw [hw _ bW, N2]; simp)
   refine fJ A3.box hi fun k cH S => ?_
   simp only [cW, ah, aU, cD]
   refine KV S aK fun dy S => ?_
   intro j hj
   simp only [bl, ah, aW, aM, mZ, bZ]
   rw [<- N2] at O
   simp only [n6, dA, List.not_mem_nil, or_false] at hp
   have t1 : (o3 = fH) = False := by simp; decide
   rcases hp with rfl | rfl | rfl | rfl | rfl | rfl
   · simp (decide := true) only [if_false, if_true] at O
     simp (decide := true) [bq]
     exact mB S O fun x _ S O => mC S fun _ S => hj _ _ (ej S O)
   · simp (decide := true) only [if_false, if_true] at O
     simp (decide := true) [a7]
     exact hj _ _ (ej S O)
   · simp (decide := true) only [if_false, if_true] at O
     simp (decide := true) [a7]
     exact hj _ _ (ej S O)
   · simp (decide := true) only [if_false, if_true] at O
     simp (decide := true) [bq]
     exact mB S O fun x _ S O => mC S fun _ S => hj _ _ (ej S O)
   · simp (decide := true) only [if_false, if_true] at O
     simp (decide := true) [a7]
     exact hj _ _ (ej S O)
   · simp (decide := true) only [if_false, if_true] at O
     simp (decide := true) [a7]
     exact hj _ _ (ej S O)
 | none =>
   simp only [Option.isSome_none, a7]
   have gd : ∀ w ∈ n6.map (·.1), ¬ w = nL X.L[i]? := fun w hw e => by
    rw [List.find?_eq_none] at xK
    obtain ⟨p, hp, rfl⟩ := List.mem_map.1 hw
    simpa [e] using xK p hp
   rw [if_neg (gd _ (by decide)), if_neg (gd _ (by decide)), if_neg (gd _ (by decide)), if_neg (gd _ (by decide)), if_neg (gd _ (by decide)), if_neg (gd _ (by decide))] at O
   refine CF A3.box hi o4 (fun hb cH A4 => ?_) (fun hb cH e4 => ?_)
   · simp only [bz, bq]
     rw [if_pos hb] at O
     have aK := cU hb
     replace O := O.fz A4
     have g2 := (y9 (L := X.L) (E := X.E) fu).1 (i + 1) aK (by omega)
     refine B.term fu (cG _) (i + 1) aK (by omega) r cH _ A4.box ⟨fun ns j e hj a ad hk A => ?_, fun j e ad A => O.bad j (by rw [e]; rfl) ad A⟩
     rw [e] at O
     refine M5 A.box hj (Out.fz O A) fun dy hj5 A5 O => ?_
     exact al.mk (O.ok _ _ rfl hj5 a dy hk ⟨A5.box, gr.refl _ _⟩)
   · simp only [bz, a7]
     rw [if_neg (by rw [hb]; simp)] at O
     have A4 : eo r (rd X i) c7 cH := .oK A3.box e4
     replace O := O.fz A4
     refine mc A4.box hi 0 (by omega) fun dy e5 => ?_
     rw [Nat.add_zero]
     have A5 : eo r (rd X i) cH dy := .oK A4.box e5
     replace O := O.fz A5
     obtain ⟨kd, s, a, e, hm⟩ := qx X.L[i]?
     rw [e]
     simp only [bz, FA, List.drop, bB, bl, ah, bE]
     have eK : qM X.L i 2 = true ↔ kd = 2 := by
      refine Iff.trans ?_ (hm 2 (by omega)).symm
      unfold qM
      cases ht : X.L[i]? with
      | none => simp
      | some t =>
        rw [ht] at e; simp only [nw, lP, List.cons.injEq, AV.str.injEq, true_and] at e
        simp [e.2.1]
     refine ⟨fun h2 => ?_, fun h2 => ?_⟩
     · rw [if_pos (eK.2 h2)] at O
       refine fJ A5.box hi fun k ny S => ?_
       simp only [cW, ah, aU, cD]
       exact oo S O fun x _ S O => GR S fun _ S => ej S O
     · rw [if_neg (fun h => h2 (eK.1 h))] at O
       refine fJ A5.box hi fun k ny S => ?_
       simp only [cW, ah, aU, cD]
       refine mB S O fun x _ S O => mC S fun _ S => ?_
       intro j hj
       refine yq S (fun hw gz S => ?_) fun hw gz S => ?_
       · simp only [bq]
         rw [if_pos hw] at O
         have hh := S.hi
         refine Qd S fun _ S => Pj B (by omega) S O fun ns j2 lS po zc S O => ?_
         exact dT S O fun _ S O => hj _ _ (ej S O)
       · simp only [a7]
         rw [if_neg (by rw [hw]; simp)] at O
         exact hj _ _ (ej S O)
end
end Go.Rip
namespace Go.Rip
open Go.Proofs Go.RowKit
section
variable {X : Rx} {ay U : St} {r k i : Nat} {kind : Int} {text : aZ} {n m at_ : Int} {l : List Nd} {R : cu -> St -> Prop} {K' : AV -> St -> Prop} {Kp : AV -> St -> Prop} {w : aZ}
theorem Qc {a : AV} {ns : List Nd} (S : Sk X ay r k i kind text n m at_ [] U) (hi : 1 <= i) (hk : dJ false [a] ns) (h : ∀ ad, Sk X ay r k i kind text n m at_ ns ad -> K' (.box k 0) ad) :
 (aH (some (87, 1)) (some [AV.aT]) 1 false [(0, a)]).wp K U (fun v U => ae K 103 [.box k 0, v] U (ar K' (aa R))) (aa R) :=
 C6 S (fun ks h1 h2 h3 => ⟨ks, h1, h2, by rw [h2.ne_nil rfl rfl]; simpa using hi⟩) hk fun ad S => h ad (by simpa using S)
theorem LM {U : St} {v : AV} {e sz n : Nat} {l : List AV} (h : Grow U v e sz n l) : bU (some false) v = .val (.int .i64 n) := by
 rcases h with ⟨rfl, rfl, rfl⟩ | ⟨τ, rfl, _⟩ <;> rfl
theorem Qf {fu : Nat} (B : Below X fu) (hi : i <= X.L.length) (he : 40 * (X.L.length - i) + 11 <= fu + 1) : Ct X 109 i (tc X.L X.E (fu + 1) i) := by
 intro r U R hr O
 refine Jn ?_
 unfold Jm
 have hs := X.small
 rw [tc] at O
 have g := (y9 (L := X.L) (E := X.E) fu).2.2.1 i hi (by omega)
 refine B.first fu (cG _) i hi (by omega) r U _ hr ⟨fun ns j e hj a bH hk A1 => ?_, fun j e ad A => O.bad j (by rw [e]; rfl) ad A⟩
 rw [e] at O g
 have et : i < j := g.1
 have O1 : Out X r bH R (xl X.L X.E fu (ef X.L X.E j) ns 1 j) := Out.fz O A1
 clear O e g
 refine fJ A1.box hj fun k bJ S => ?_
 refine Qc S (by omega) hk fun c7 S => ?_
 intro jj wa
 have fin : ∀ (acc : List Nd) (many q : Nat) (ad : St), Sk X bH r k q 9 [] 0 0 (ef X.L X.E j) acc ad -> (∃ ks, dJ true ks acc /\ ks.length = many) -> (many = 1 -> acc = ns) -> Out X r bH R (.ok (if many = 1 then acc else node 9 [] 0 0 (ef X.L X.E j) acc) q) -> jj a (.box k 0) ad := by
  intro acc many q ad S ⟨Xc, Sd, oI⟩ h1 O
  refine wa _ _ _ ?_
  have hq' := S.hi
  have ZF := S.A
  obtain ⟨ks, M, hkr, hle⟩ := S.M
  have hl : ks.length = many := (hkr.count Sd).trans oI
  obtain ⟨kv, b1, b2, b3, b4⟩ := M.box
  simp only [cW, ah, aU, cD, fe b1, qh, List.drop, bB, LM b2, bl, bE, hl]
  refine ⟨fun h => ?_, fun h => ?_⟩
  · have h : many = 1 := by omega
    rw [if_pos h] at O
    have := h1 h
    subst this
    exact al.mk (O.ok _ _ rfl hq' a ad hk ZF)
  · rw [if_neg (by omega)] at O
    exact ej S O
 refine ⟨fun mm v0 v3 v4 ad => ∃ acc many q f', mm = X.L.length - q /\ v0 = .box r 0 /\ v3 = a /\ v4 = .box k 0 /\ i < q /\ 40 * (X.L.length - q) + 1 <= f' /\ f' <= fu /\ Sk X bH r k q 9 [] 0 0 (ef X.L X.E j) acc ad /\ (∃ ks, dJ true ks acc /\ ks.length = many) /\ (many = 1 -> acc = ns) /\ 1 <= many /\ Out X r bH R (xl X.L X.E f' (ef X.L X.E j) acc many q),
  ⟨_, ns, 1, j, fu, rfl, rfl, rfl, rfl, et, by omega, cG _, S, ⟨[a], hk.one, rfl⟩, fun _ => rfl, cG _, O1⟩, ?_⟩
 clear O1 S et
 rintro mm v0 v3 v4 cH ⟨acc, many, q, f', rfl, rfl, rfl, rfl, hiq, NL, R4, S, kD, Et, NU, O⟩
 cases f' with
 | zero => omega
 | succ f' =>
   rw [xl] at O
   have hq := S.hi
   refine TB S fun b dy hb S => ?_
   cases b with
   | false =>
     simp only [a7]
     rw [if_neg (by rw [hb]; simp)] at O
     exact fin acc many q dy S kD Et O
   | true =>
     simp only [bq]
     have aK := cU hb
     refine mc S.A.box hq 1 (by omega) fun ny e6 => ?_
     obtain ⟨kd, s, at', e, hm⟩ := qx X.L[q + 1]?
     have ze : kd = 0 ↔ X.L.length <= q + 1 := by
      cases ht : X.L[q + 1]? with
      | none =>
        rw [ht] at e; simp only [nw, List.cons.injEq, AV.int.injEq, true_and] at e
        rw [List.getElem?_eq_none_iff] at ht
        exact ⟨fun _ => ht, fun _ => e.1.symm⟩
      | some t =>
        rw [ht] at e; simp only [nw, lP, List.cons.injEq, AV.int.injEq, true_and] at e
        have := (dx.1 ht).1
        have hk := (X.ok t (fS ht)).cases
        constructor
        · intro h; omega
        · intro h; omega
     have RS := Du X.L[q + 1]?
     rw [PU] at RS
     rw [e] at RS ⊢
     simp only [bz, lR]
     intro b2 jO
     have e7 := e6.new (x := .box [AV.int .u8 0, AV.str [], AV.int .i64 0]) jO
     rw [show NV.at b2 .box = AV.box b2 0 from rfl, cF aD]
     refine ⟨⟨rfl, rfl, by simp⟩, ?_⟩
     have e8 := e7.set (x := .box (aw [AV.int .u8 0, AV.str [], AV.int .i64 0] 0 (au (.agg [.int .u8 kd, .str s, .int .i64 at'])))) (e6.fresh jO.1)
     generalize lL : (ny.new b2 (.box [AV.int .u8 0, AV.str [], AV.int .i64 0])).set b2 (.box (aw [AV.int .u8 0, AV.str [], AV.int .i64 0] 0 (au (.agg [.int .u8 kd, .str s, .int .i64 at'])))) = lS at e8 ⊢
     have mL : lS.box b2 = some [.int .u8 kd, .str s, .int .i64 at'] := by rw [<- lL, aR]; rfl
     replace S := S.fz (.oK S.A.box e8) hq (cG _)
     simp only [aU, ah, fe mL, List.drop, bB, cD, bl, aW, aM]
     have stop : ¬ (q + 1 < X.L.length /\ Cw X.L (q + 1) = false) -> jj v3 (.box k 0) lS := fun hn => by
      rw [if_neg (fun h => hn h.2)] at O
      exact fin acc many q lS S kD Et O
     by_cases h0 : kd = 0
     · simp only [h0, cX, show (true == false) = false from rfl, cc, aJ, if_true, ah, bq]
       exact stop (fun h => by have := ze.1 h0; omega)
     · simp only [h0, dz, fK, bZ, sT mL, CU, kP, aJ, bu, if_false, ah]
       refine ⟨by simp, _, RS, ?_⟩
       cases hit : Cw X.L (q + 1) with
       | true => simp only [bq]; exact stop (fun h => by rw [hit] at h; cases h.2)
       | false =>
         simp only [a7]
         have zd : q + 1 < X.L.length := by
          rcases fT (q + 1) X.L.length with h | h
          · exact h
          · exact absurd (ze.2 h) h0
         rw [if_pos ⟨hb, zd, hit⟩] at O
         refine zz S hb fun nr S => ?_
         have hF : fy X f' q := fun j hj WX => ⟨B.first f' (by omega) j hj (by omega), (y9 f').2.2.1 j hj (by omega)⟩
         have RW : ∀ EO a2, dJ false [a2] EO -> ∃ ks, dJ true ks (acc ++ EO) /\ ks.length = many + 1 := fun EO a2 h => by
          obtain ⟨ks, h1, h2⟩ := kD
          exact ⟨ks ++ [a2], h1.snoc h, by simp [h2]⟩
         obtain ⟨g1, g2⟩ := hF (q + 1) aK (by omega)
         refine g1 r nr _ S.A.box ⟨fun EO j2 e po a2 tn eK A2 => ?_, fun j e ad A => O.bad j (by rw [e]; rfl) ad (S.A.trans A)⟩
         rw [e] at g2 O
         have WX : q + 1 < j2 := g2.1
         obtain ⟨ks, M1, M2, M3⟩ := S.M
         have S2 := S.fz A2 po (by omega)
         refine C6 S2 (fun _ _ _ _ => ⟨ks, M1.fz A2 S.A.box, M2, by omega⟩) eK fun Zf S3 => ?_
         refine ⟨_, ?_, acc ++ EO, many + 1, j2, f', rfl, rfl, rfl, rfl, by omega, by omega, by omega, S3, RW EO a2 eK, fun h => by omega, by omega, O⟩
         omega
end
theorem below : ∀ (X : Rx) (fu : Nat), Below X fu := fun X fu => by
 induction fu with
 | zero => constructor <;> intros <;> omega
 | succ fu B =>
   have st : ∀ {f' : Nat}, f' <= fu + 1 -> f' <= fu \/ f' = fu + 1 := fun h => by omega
   refine ⟨fun f' hf j hj he => ?_, fun f' hf j hj he => ?_, fun f' hf j lev hj h2 h9 he => ?_, fun f' hf j hj he => ?_, fun f' hf j hj he => ?_⟩
   · rcases st hf with h | rfl
     · exact B.term f' h j hj he
     · exact Qf B hj he
   · rcases st hf with h | rfl
     · exact B.first f' h j hj he
     · exact LG hj (B.HI (by omega)) (B.oper fu (cG _) j 2 hj (by omega) (by omega) (by omega))
   · rcases st hf with h | rfl
     · exact B.oper f' h j lev hj h2 h9 he
     · exact P5 hj h2 h9 he (fun h => B.atom fu (cG _) j hj (by omega)) B.ops
   · rcases st hf with h | rfl
     · exact B.atom f' h j hj he
     · exact Pn B hj he
   · rcases st hf with h | rfl
     · exact B.arg f' h j hj he
     · exact Rr B hj he
end Go.Rip
