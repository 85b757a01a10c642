/- Lemmas for the proof: no conditions. -/
import Derived.Test.YtnfpmiiopiinbaaGreatDoorRipZz
import Derived.Test.YtnfpmiiopiinbaaGreatDoorRipN
set_option linter.unusedVariables false
set_option linter.unusedSimpArgs false
set_option linter.loopingSimpArgs false
namespace Go.Rip
open Go.Proofs Go.RowKit
section
variable {X : Rx} {i : Nat}
theorem MH {U : St} {r : Nat} {w : bf} {K' : AV -> St -> Prop} {Kp : AV -> St -> Prop} (hr : U.box r = some (rd X i)) (hi : i <= X.L.length) (h : ∀ b ae, cF X.L i w = b -> eQ r (rd X i) U ae -> K' (.bool b) ae) :
 (aP (some (9, 1)) (some [AV.str []]) 1 false [(0, .str w)]).wp K U (fun v U => af K 105 [.box r 0, v] U (au K' Kp)) Kp := by
 rw [fO]
 refine ⟨by omega, ?_⟩
 rw [eM (o := 0) (s := 1) rfl]
 refine ⟨⟨rfl, rfl, by simp [bL]⟩, ?_⟩
 rw [gX]
 refine ⟨rfl, ?_⟩
 refine Ha (l := [w]) hr hi (by simp) fun bJ e1 => ?_
 exact h _ _ (by rw [wA]) (.pF hr e1)
theorem Ak {U : St} {r : Nat} {R : cB -> St -> Prop} {f : FuncId} {p : PR (List Nd)} (C : Ct X f i p) (hr : U.box r = some (rd X i)) (O : Out X r U R p) : af K f [.box r 0] U (au (fun v U => aj R v U) (aa R)) :=
 C r U _ hr ⟨fun ns j e hj a ae hk A => aj.mk (O.ok ns j e hj a ae hk A), O.bad⟩
theorem Fj (hi : i <= X.L.length) : Ct X 278 i (yk X.L X.E i) := by
 intro r U R hr O
 refine MB ?_
 unfold MA
 refine gp hr hi fun k bJ S => ?_
 simp only [dk, ai, aU, ck]
 exact nK S O fun x cE S O => nL S fun dV S => eP S O
end
end Go.Rip
namespace Go.Rip
open Go.Proofs Go.RowKit
theorem G9 {c : iV} (o : Option Tk) (l : List bf) (hn : l.length <= 100000) (hc : closed (.vec l.length c (l.map .str)) = true) : Pure K 121 [.agg (ow o), .vec l.length c (l.map .str)] (.bool (rZ o l)) := by
 refine Pure.of ?_ rfl (fun U => rfl) fun R hR => xK o l hn fun ae _ => hR ae
 have : closed (.agg (ow o)) = true := by cases o <;> rfl
 simp only [bU, this, hc, Bool.and_self]
section
variable {X : Rx} {aF U : St} {r k i : Nat} {kind : Int} {text : bf} {n m at_ : Int} {l : List Nd} {R : cB -> St -> Prop} {K' : AV -> St -> Prop} {Kp : AV -> St -> Prop} {w : bf} {f : FuncId}
def gi (X : Rx) (f i : Nat) : Prop := ∀ j, j <= X.L.length -> i < j -> Ct X 169 j (cC X.L X.E f j) /\ Gd X.L.length (j + 1) j (cC X.L X.E f j)
def zC (X : Rx) (f : Nat) (fin : List Nd -> Nat -> PR (List Nd)) : List bf -> List Nd -> Nat -> PR (List Nd)
 | [], acc, i => fin acc i
 | w :: ws, acc, i => (cI X.L w i).bind fun _ j => (cC X.L X.E f j).bind fun a j => zC X f fin ws (acc ++ a) j
theorem D0 {fu i0 : Nat} (hF : gi X fu i0) {fin : List Nd -> Nat -> PR (List Nd)} (ws : List bf) (hw : ws.length <= 10) (AS : i0 <= i) (S : Sk X aF r k i kind text n m at_ l U) {ac : List Nd} (hac : ac = l) (O : Out X r aF R (zC X fu fin ws ac i))
 (h : ∀ acc j ae, Sk X aF r k j kind text n m at_ acc ae -> Out X r aF R (fin acc j) -> aj R (.box k 0) ae) :
 cL 5 [.box r 0, .box k 0, .vec ws.length .full (ws.map .str), .int .i64 ws.length, .int .i64 0] U fun lp v0 v3 eU oq v10 U =>
 (ak .lss (BT.mk false false false none false) false v10 oq).wp K U (fun v11 U =>
 ao v11 (
  (aG (some (9, 1)) none eU v10).wp K U (fun v12 U =>
  (aq (some (false, 1)) v12 U).wp K U (fun bF U =>
  af K 102 [v0, bF] U (au (fun cM U =>
  af K 169 [v0] U (au (fun cH U =>
  (aP (some (87, 1)) (some [AV.a7]) 1 false [(0, cH)]).wp K U (fun v20 U =>
  af K 103 [v3, v20] U (au (fun v21 U =>
  (ak .add (BT.mk false false false none false) true v10 (AV.int .i64 1)).wp K U (fun cn U =>
  lp v0 v3 eU oq cn U) (aa R)) (aa R))) (aa R)) (aa R))) (aa R))) (aa R)) (aa R)) (
  aj R v3 U)) (aa R) := by
 subst hac
 refine ⟨fun mm v0 v3 v8 v9 v10 ae => ∃ t acc j, t <= ws.length /\ mm = ws.length - t /\ v0 = .box r 0 /\ v3 = .box k 0 /\ v8 = .vec ws.length .full (ws.map .str) /\ v9 = .int .i64 ws.length /\ v10 = .int .i64 (t : Nat) /\ i0 <= j /\ Sk X aF r k j kind text n m at_ acc ae /\ Out X r aF R (zC X fu fin (ws.drop t) acc j),
  ⟨_, 0, _, _, by omega, rfl, rfl, rfl, rfl, rfl, rfl, AS, S, O⟩, ?_⟩
 rintro mm v0 v3 v8 v9 v10 bJ ⟨t, acc, j, ht, rfl, rfl, rfl, rfl, rfl, rfl, fM, S, O⟩
 simp only [bj, ai, aX]
 refine ⟨fun aJ => ?_, fun fZ => ?_⟩
 · have aJ : t < ws.length := by omega
   have hd : (ws.map AV.str).drop (t * 1) = .str ws[t] :: (ws.map AV.str).drop (t + 1) := by
    rw [Nat.mul_one, fN (by simpa using aJ)]; simp
   have uD : ws.drop t = ws[t] :: ws.drop (t + 1) := fN aJ
   rw [uD] at O
   simp only [Av, ej, hd, mR, bG]
   refine ⟨by omega, ?_⟩
   unfold zC at O
   refine eu S O fun bX S O => ?_
   obtain ⟨g1, g2⟩ := hF _ S.hi (by omega)
   refine kG S g1 g2 O fun ns j2 cE ov zV S O => ?_
   simp only [cq]
   refine ⟨aZ (by omega) (by omega), ws.length - (t + 1), by omega, t + 1, _, _, aJ, rfl, rfl, rfl, rfl, rfl, rfl, by omega, S, O⟩
 · have : t = ws.length := by omega
   subst this
   rw [List.drop_length] at O
   exact h _ _ _ S O
theorem Ic {fu : Nat} (hi : i <= X.L.length) (hF : gi X fu i) : Ct X 158 i ((cI X.L yd i).bind fun _ j => (cC X.L X.E fu j).bind fun c j => (cI X.L te j).bind fun _ j => (cC X.L X.E fu j).bind fun a j => (cI X.L kP j).bind fun _ j => (cC X.L X.E fu j).bind fun b j => .ok (node 10 [] 0 0 (eL X.L X.E i) (c ++ a ++ b)) j) := by
 intro r U R hr O
 refine La ?_
 unfold K9
 refine gp hr hi fun k bJ S => ?_
 rw [fO]
 refine ⟨by omega, ?_⟩
 rw [eM (o := 0) (s := 1) rfl]
 refine ⟨⟨rfl, rfl, by simp [bL]⟩, ?_⟩
 rw [eM (o := 1) (s := 1) rfl]
 refine ⟨⟨rfl, rfl, by simp [bL, aA]⟩, ?_⟩
 rw [eM (o := 2) (s := 1) rfl]
 refine ⟨⟨rfl, rfl, by simp [bL, aA]⟩, ?_⟩
 rw [gX]
 refine ⟨rfl, ?_⟩
 simp only [oG, ai]
 exact D0 (fin := fun acc j => .ok (node 10 [] 0 0 (eL X.L X.E i) acc) j) hF [yd, te, kP] (by simp) (df _) S rfl O fun acc j ae S O => eP S O
theorem RJ {fu : Nat} (hi : i <= X.L.length) (hF : gi X fu i) : Ct X 159 i ((cI X.L oU i).bind fun _ j => (cC X.L X.E fu j).bind fun a j => (cI X.L At j).bind fun _ j => (cC X.L X.E fu j).bind fun b j => .ok (node 11 [] 0 0 (eL X.L X.E i) (a ++ b)) j) := by
 intro r U R hr O
 refine Lc ?_
 unfold Lb
 refine gp hr hi fun k bJ S => ?_
 rw [fO]
 refine ⟨by omega, ?_⟩
 rw [eM (o := 0) (s := 1) rfl]
 refine ⟨⟨rfl, rfl, by simp [bL]⟩, ?_⟩
 rw [eM (o := 1) (s := 1) rfl]
 refine ⟨⟨rfl, rfl, by simp [bL, aA]⟩, ?_⟩
 rw [gX]
 refine ⟨rfl, ?_⟩
 simp only [oG, ai]
 exact D0 (fin := fun acc j => .ok (node 11 [] 0 0 (eL X.L X.E i) acc) j) hF [oU, At] (by simp) (df _) S rfl O fun acc j ae S O => eP S O
theorem jB {fu i0 : Nat} {q : List Nd -> Nat -> PR (List Nd)} (hF : gi X fu i0) (h0 : i0 < i) (S : Sk X aF r k i kind text n m at_ l U) (O : Out X r aF R ((cC X.L X.E fu i).bind q))
 (h : ∀ ns j ae, j <= X.L.length -> i < j -> Sk X aF r k j kind text n m at_ (l ++ ns) ae -> Out X r aF R (q ns j) -> K' (.box k 0) ae) :
 af K 169 [.box r 0] U (au (fun v U => (aP (some (87, 1)) (some [AV.a7]) 1 false [(0, v)]).wp K U (fun v U => af K 103 [.box k 0, v] U (au K' (aa R))) (aa R)) (aa R)) :=
 kG S (hF _ S.hi h0).1 (hF _ S.hi h0).2 O h
theorem Rm {fu : Nat} (hi : i <= X.L.length) (hF : gi X fu i) : Ct X 160 i ((cI X.L wO i).bind fun _ j => (iU X.L j).bind fun x j => (cI X.L wJ j).bind fun _ j => (kr X.L j).bind fun n j => (cI X.L cV j).bind fun _ j => (kr X.L j).bind fun m j => (cI X.L qU j).bind fun _ j => (cC X.L X.E fu j).bind fun a j => .ok (node 12 x n m (eL X.L X.E i) a) j) := by
 intro r U R hr O
 refine Lf ?_
 unfold Ld
 refine gp hr hi fun k bJ S => ?_
 simp only [dk, ai, aU, ck]
 refine eu S O fun _ S O => nK S O fun x _ S O => nL S fun _ S => eu S O fun _ S O => pe S O fun _ _ S O => HM S fun _ S => eu S O fun _ S O => pe S O fun _ _ S O => aaT S fun _ S => eu S O fun _ S O => ?_
 exact jB hF (by omega) S O fun ns j dV hj fM S O => eP S O
theorem NZ {fu : Nat} (hi : i <= X.L.length) (hF : gi X fu i) : Ct X 161 i ((cI X.L qe i).bind fun _ j => (iU X.L j).bind fun x j => (cI X.L qU j).bind fun _ j => (cC X.L X.E fu j).bind fun a j => (cI X.L kP j).bind fun _ j => (cC X.L X.E fu j).bind fun b j => .ok (node 13 x 0 0 (eL X.L X.E i) (a ++ b)) j) := by
 intro r U R hr O
 refine Lh ?_
 unfold Lg
 refine gp hr hi fun k bJ S => ?_
 simp only [dk, ai, aU, ck]
 refine eu S O fun _ S O => nK S O fun x _ S O => nL S fun _ S => eu S O fun _ S O => ?_
 refine jB hF (by omega) S O fun ns j dV hj fM S O => eu S O fun _ S O => ?_
 exact jB hF (by omega) S O fun ns j dV hj fM S O => eP S O
theorem Ie {fu : Nat} (hi : i <= X.L.length) (hF : gi X fu i) : Ct X 162 i ((cI X.L oR i).bind fun _ j => (cC X.L X.E fu j).bind fun a j => (cI X.L kP j).bind fun _ j => (cC X.L X.E fu j).bind fun b j => .ok (node 15 [] 0 0 (eL X.L X.E i) (a ++ b)) j) := by
 intro r U R hr O
 refine Lj ?_
 unfold Li
 refine gp hr hi fun k bJ S => ?_
 refine eu S O fun _ S O => ?_
 refine jB hF (by omega) S O fun ns j dV hj fM S O => eu S O fun _ S O => ?_
 exact jB hF (by omega) S O fun ns j dV hj fM S O => eP S O
theorem JG {fu : Nat} (hi : i <= X.L.length) (hF : gi X fu i) : Ct X 163 i ((cI X.L oT i).bind fun _ j => (iU X.L j).bind fun x j => (cI X.L cV j).bind fun _ j => (kr X.L j).bind fun n j => (cI X.L qU j).bind fun _ j => (cC X.L X.E fu j).bind fun a j => .ok (node 14 x n 0 (eL X.L X.E i) a) j) := by
 intro r U R hr O
 refine Ll ?_
 unfold Lk
 refine gp hr hi fun k bJ S => ?_
 simp only [dk, ai, aU, ck]
 refine eu S O fun _ S O => nK S O fun x _ S O => nL S fun _ S => eu S O fun _ S O => pe S O fun _ _ S O => HM S fun _ S => eu S O fun _ S O => ?_
 exact jB hF (by omega) S O fun ns j dV hj fM S O => eP S O
end
end Go.Rip
namespace Go.Rip
open Go.Proofs Go.RowKit
def ib : List (bf × Nat) := [(oR, 162), (yd, 158), (qe, 161), (wO, 160), (oT, 163), (oU, 159)]
theorem GK : sB = .eI (ib.map fun p => .str p.1) (ib.map fun p => .func (.func p.2) [] []) := rfl
theorem rq (s : bf) (z : AV) : ∀ l : List (bf × AV), kn .s (.str s) z true (l.map fun p => .str p.1) (l.map fun p => p.2) = .val (.aQ [match l.find? (fun p => p.1 = s) with | some p => p.2 | none => z, .bool (l.find? (fun p => p.1 = s)).isSome])
 | [] => rfl
 | p :: l => by
   simp only [dy, kn, fz, List.find?_cons]
   by_cases h : s = p.1
   · subst h; simp
   · have h' : ¬ p.1 = s := fun e => h e.symm
     simp only [h', cm]
     rw [show (s == p.1) = false by simp [h]]
     simpa using rq s z l
theorem GI (s : bf) (U : St) : fq (some (.s, 186)) (some AV.cZ) sB (.str s) true U = .val (.aQ [match ib.find? (fun p => p.1 = s) with | some p => .func (.func p.2) [] [] | none => .cZ, .bool (ib.find? (fun p => p.1 = s)).isSome]) := by
 rw [GK]
 have := rq s .cZ (ib.map fun p => (p.1, AV.func (.func p.2) [] []))
 simp only [fq, kg, nX]
 rw [List.map_map, List.map_map] at this
 rw [show (ib.map fun p => AV.str p.1) = List.map ((fun p : bf × AV => AV.str p.1) ∘ fun p => (p.1, AV.func (.func p.2) [] [])) ib from rfl, show (ib.map fun p => AV.func (.func p.2) [] []) = List.map ((fun p : bf × AV => p.2) ∘ fun p => (p.1, AV.func (.func p.2) [] [])) ib from rfl, this]
 congr 2
 rw [List.find?_map]
 have e : ((fun p : bf × AV => decide (p.1 = s)) ∘ fun p : bf × Nat => (p.1, AV.func (.func p.2) [] [])) = fun p => decide (p.1 = s) := rfl
 rw [e]
 cases ib.find? fun p => decide (p.1 = s) <;> rfl
theorem Ep (o : Option Tk) : Pure K 61 [.agg (ow o)] (.bool (rZ o [nv, ur, nu])) := by
 refine Pure.of ?_ rfl (fun U => rfl) fun R hR => ?_
 · cases o <;> rfl
 refine OC ?_
 have ht : (ow o).length = 3 := by cases o <;> rfl
 unfold Qu
 rw [eA rfl]
 intro b hb
 rw [show ax (.agg (ow o)) = ow o from rfl, rL aL]
 refine ⟨by simp [ht], ?_⟩
 rw [fO]
 refine ⟨by omega, ?_⟩
 rw [eM (o := 0) (s := 1) rfl]
 refine ⟨⟨rfl, rfl, by simp [bL]⟩, ?_⟩
 rw [eM (o := 1) (s := 1) rfl]
 refine ⟨⟨rfl, rfl, by simp [bL, aA]⟩, ?_⟩
 rw [eM (o := 2) (s := 1) rfl]
 refine ⟨⟨rfl, rfl, by simp [bL, aA]⟩, ?_⟩
 rw [gX]
 refine ⟨rfl, ?_⟩
 rw [dX, pt (by omega)]
 exact xK (c := .full) o [nv, ur, nu] (by simp) fun ae _ => aj.mk (hR ae)
theorem RR (L : List Tk) (i : Nat) : rZ L[i]? [nv, ur, nu] = Di L i := by
 unfold rZ Di cF
 cases h : L[i]? with
 | none => rfl
 | some t =>
   simp only [h]
   cases hk : (t.k == 3 || t.k == 4) with
   | false => simp
   | true =>
     simp only [Bool.true_and]
     rw [lL]
     simp [or_assoc]
section
variable {X : Rx} {aF U : St} {r k i : Nat} {R : cB -> St -> Prop} {K' : AV -> St -> Prop} {Kp : AV -> St -> Prop} {f : FuncId}
theorem WH {hY : FuncId} (he : dB K.P hY = true) {c : List AV} : (fY K.P (.func (.func hY) [] []) [.box r 0]).wp K U K' Kp = af K hY [.box r 0] U (au K' Kp) := by
 simp [fY, he]
def Co (X : Rx) (i lev : Nat) (p : PR (List Nd)) : Prop := ∀ (r : Nat) (U : St) (R : cB -> St -> Prop), U.box r = some (rd X i) -> Out X r U R p -> af K 219 [.box r 0, .int .i64 (lev : Nat)] U R
theorem Rw {s : bf} {p : bf × Nat} (h : ib.find? (fun p => p.1 = s) = some p) : p ∈ ib /\ p.1 = s := ⟨List.mem_of_find?_eq_some h, by simpa using List.find?_some h⟩
theorem Nx {fu : Nat} (hi : i <= X.L.length) (hF : gi X fu i) (hO : Co X i 2 (ku X.L X.E fu 2 i)) : Ct X 169 i (cC X.L X.E (fu + 1) i) := by
 intro r U R hr O
 refine Lu ?_
 unfold Lt
 refine nq hr hi 0 (by omega) fun bJ e1 => ?_
 rw [Nat.add_zero]
 obtain ⟨kd, s, a, e, hm⟩ := rH X.L[i]?
 rw [e]
 simp only [bu, lV]
 intro b hb
 have C4 := e1.bo hr
 have e2 := e1.new (x := .box [AV.int .u8 0, AV.str [], AV.int .i64 0]) hb
 rw [show NV.at b .box = AV.box b 0 from rfl, cA aL]
 refine ⟨⟨rfl, rfl, by simp⟩, ?_⟩
 have e3 := e2.set (x := .box (aA [AV.int .u8 0, AV.str [], AV.int .i64 0] 0 (ax (.agg [.int .u8 kd, .str s, .int .i64 a])))) (e1.fresh hb.1)
 generalize ln : (bJ.new b (.box [AV.int .u8 0, AV.str [], AV.int .i64 0])).set b (.box (aA [AV.int .u8 0, AV.str [], AV.int .i64 0] 0 (ax (.agg [.int .u8 kd, .str s, .int .i64 a])))) = cE at e3 ⊢
 have jN : cE.box b = some [.int .u8 kd, .str s, .int .i64 a] := by rw [<- ln, aS]; rfl
 have xe := e3.bo hr
 have A3 : eQ r (rd X i) U cE := .pF hr e3
 replace O := O.gj A3
 have eW : ∀ t, X.L[i]? = some t -> s = t.s /\ kd = t.k := fun t ht => by
  rw [ht] at e; simp only [ow, mP, List.cons.injEq, AV.str.injEq, AV.int.injEq, true_and] at e; exact ⟨e.2.1.symm, e.1.symm⟩
 simp only [dk, aw, aU, lK xe, rd, List.drop, fB, ck, lK jN, GI, bR, aI, aB, jl]
 have Y2 : ∀ w ∈ ib.map (·.1), cF X.L i w = true -> kd = 3 /\ s = w := fun w hw h => by
  have : ∀ w ∈ ib.map (·.1), w ∈ km := by decide
  obtain ⟨t, ht, hk, hs⟩ := RC X.ok (this w hw) h
  obtain ⟨h1, h2⟩ := eW t ht
  exact ⟨by omega, h1.trans hs⟩
 have fin : (¬ (kd = 3 /\ s ∈ ib.map (·.1))) -> (∀ w ∈ ib.map (·.1), cF X.L i w = false) := fun h w hw => by
  cases hx : cF X.L i w with
  | false => rfl
  | true => obtain ⟨h1, h2⟩ := Y2 w hw hx; exact absurd ⟨h1, h2 ▸ hw⟩ h
 by_cases hc : kd = 3 /\ s ∈ ib.map (·.1)
 · obtain ⟨h3, hs⟩ := hc
   obtain ⟨t, ht, hk, A0⟩ := (hm 3 (by omega)).1 h3
   subst h3
   have yQ : cF X.L i s = true := RD ht (.inl hk) A0
   have bQ : ∀ w ∈ ib.map (·.1), w ≠ s -> ¬ (cF X.L i w = true) := fun w hw hn h => hn (Y2 w hw h).2.symm
   have key : ∃ hY, ib.find? (fun p => p.1 = s) = some (s, hY) /\ dB K.P hY = true /\ ∃ p, Ct X hY i p /\ cC X.L X.E (fu + 1) i = p := by
    have hnd : cI X.L s i = .ok () (i + 1) := by simp [cI, yQ]
    have dA : s ∈ ib.map (·.1) := hs
    simp only [ib, dy, gP, ep, List.not_mem_nil, or_false] at hs
    rcases hs with rfl | rfl | rfl | rfl | rfl | rfl
    · exact ⟨162, rfl, by kernel_rfl, _, Ie hi hF, by rw [cC, if_neg (bQ _ (by decide) (by decide)), if_neg (bQ _ (by decide) (by decide)), if_neg (bQ _ (by decide) (by decide)), if_neg (bQ _ (by decide) (by decide)), if_pos yQ, hnd]; rfl⟩
    · exact ⟨158, rfl, by kernel_rfl, _, Ic hi hF, by rw [cC, if_pos yQ, hnd]; rfl⟩
    · exact ⟨161, rfl, by kernel_rfl, _, NZ hi hF, by rw [cC, if_neg (bQ _ (by decide) (by decide)), if_neg (bQ _ (by decide) (by decide)), if_neg (bQ _ (by decide) (by decide)), if_pos yQ, hnd]; rfl⟩
    · exact ⟨160, rfl, by kernel_rfl, _, Rm hi hF, by rw [cC, if_neg (bQ _ (by decide) (by decide)), if_neg (bQ _ (by decide) (by decide)), if_pos yQ, hnd]; rfl⟩
    · exact ⟨163, rfl, by kernel_rfl, _, JG hi hF, by rw [cC, if_neg (bQ _ (by decide) (by decide)), if_neg (bQ _ (by decide) (by decide)), if_neg (bQ _ (by decide) (by decide)), if_neg (bQ _ (by decide) (by decide)), if_neg (bQ _ (by decide) (by decide)), if_pos yQ, hnd]; rfl⟩
    · exact ⟨159, rfl, by kernel_rfl, _, RJ hi hF, by rw [cC, if_neg (bQ _ (by decide) (by decide)), if_pos yQ, hnd]; rfl⟩
   obtain ⟨hY, h1, h2, p, h3, h4⟩ := key
   rw [h1]
   simp only [Option.isSome_some, dw, bp, aw, fT, lK jN, List.drop, fB, aW, bS, az, if_true, ai, bh]
   rw [WH h2 (c := [])]
   rw [h4] at O
   exact Ak h3 xe O
 · have hw := fin hc
   have hf : ∀ w ∈ ib.map (·.1), ¬ (cF X.L i w = true) := fun w h => by rw [hw w h]; simp
   rw [cC, if_neg (hf _ (by decide)), if_neg (hf _ (by decide)), if_neg (hf _ (by decide)), if_neg (hf _ (by decide)), if_neg (hf _ (by decide)), if_neg (hf _ (by decide))] at O
   have ZX : ∀ (c : Option (bf × Nat)) (A B : Prop), ib.find? (fun p => p.1 = s) = c -> (c.isSome = true -> kd ≠ 3) := fun c A B h1 h2 h3 => by
    cases c with
    | none => cases h2
    | some p => exact hc ⟨h3, by obtain ⟨k1, k2⟩ := Rw h1; exact List.mem_map.2 ⟨p, k1, k2⟩⟩
   have sel : ∀ (V : AV) (A B : Prop), B -> ao (.bool false) A B := fun _ _ _ hB => by rw [aV]; exact hB
   have rest : iQ 2
    (fun v0 eX U =>
      ao eX (
    af K 99 [v0, (AV.int .u8 16)] U (au (fun ga U =>
    af K 101 [v0] U (au (fun jE U =>
    (bC ga).wp K U (fun j5 U =>
    (ag (some 0) j5).wp K U (fun eo U =>
    (ag (some 1) eo).wp K U (fun oh U =>
    (aM (some (false, 1)) oh jE U).wp K U (fun _ U =>
    af K 102 [v0, (AV.str cV)] U (au (fun v46 U =>
    af K 169 [v0] U (au (fun v49 U =>
    (aP (some (87, 1)) (some [AV.a7]) 1 false [(0, v49)]).wp K U (fun lx U =>
    af K 103 [ga, lx] U (au (fun v51 U =>
    aj R v51 U) (aa R))) (aa R)) (aa R))) (aa R))) (aa R)) (aa R)) (aa R)) (aa R)) (aa R))) (aa R))) (
    af K 219 [v0, (AV.int .i64 2)] U (au (fun v53 U =>
    aj R v53 U) (aa R)))) (fun j =>
     av.wp K cE
      (fun cz U =>
        av.wp K U
         (fun v30 U =>
           ad K (ar v30 true) (av.val (AV.box r 0)) fun fF =>
            ao (ar v30 true)
             (af K 167 [fF, AV.int IntKind.i64 1] U
               (au
                 (fun dL U =>
                   ad K (ar v30 true)
                    (aP (some (9, 1)) (some [AV.str []]) 1 false [(0, AV.str cV)]) fun fG =>
                    ad K (ar v30 true) (av.enter 121 [dL, fG]) fun eF =>
                     av.wp K U (fun o5 U => j (AV.box r 0) o5 U) (aa R)
                      (aR v30 eF (AV.bool false)))
                 (aa R)))
             (ad K (ar v30 true)
               (aP (some (9, 1)) (some [AV.str []]) 1 false [(0, AV.str cV)]) fun HQ =>
               ad K (ar v30 true) (av.enter 121 [AV.aQ [], HQ]) fun zt =>
                av.wp K U (fun o5 U => j (AV.box r 0) o5 U) (aa R)
                 (aR v30 zt (AV.bool false))))
         (aa R)
         (ak BinOp.eql { b := false, i := false, p := false, f := none, s := false } true cz (AV.int IntKind.u8 1)))
      (aa R) (aq (some (false, 1)) (AV.box b 0) cE)) := by
    intro j hj
    have yes : rV X.L i 1 = true -> cF X.L (i + 1) cV = true -> ∀ cW, eQ r (rd X i) cE cW -> j (.box r 0) (.bool true) cW := fun g1 g2 cW A4 => by
     refine hj _ _ _ ?_
     rw [if_pos ⟨g1, g2⟩] at O
     replace O := O.gj A4
     rw [bh]
     refine gp A4.box hi fun k dV S => ?_
     simp only [dk, ai, aU, ck]
     refine nK S O fun x _ S O => nL S fun _ S => eu S O fun _ S O => ?_
     exact jB hF (by omega) S O fun ns j dV hj fM S O => eP S O
    have no : ¬ (rV X.L i 1 = true /\ cF X.L (i + 1) cV = true) -> ∀ cW, eQ r (rd X i) cE cW -> j (.box r 0) (.bool false) cW := fun g cW A4 => by
     refine hj _ _ _ ?_
     rw [if_neg g] at O
     replace O := O.gj A4
     rw [aV]
     exact hO r cW _ A4.box ⟨fun ns j e hj a ae hk A => aj.mk (O.ok ns j e hj a ae hk A), O.bad⟩
    have nE : rV X.L i 1 = decide (kd = 1) := by
     unfold rV
     cases ht : X.L[i]? with
     | none => rw [ht] at e; simp only [ow, List.cons.injEq, AV.int.injEq, true_and] at e; simp [<- e.1]
     | some t => obtain ⟨_, h2⟩ := eW t ht; rw [h2]; rw [lL]; simp; omega
    rw [ff jN]
    simp only [List.drop, bG, aW, ai, aI]
    by_cases h1 : kd = 1
    · simp only [h1, bS, dw, aB, bp, aw, fT, bh]
      refine nq xe hi 1 (by omega) fun cW e4 => ?_
      simp only [bu]
      rw [xV]
      refine ⟨by omega, ?_⟩
      rw [vJ (o := 0) (s := 1) rfl]
      refine ⟨⟨rfl, rfl, by simp [bL]⟩, ?_⟩
      rw [Ad]
      refine ⟨rfl, _, G9 (c := .full) (X.L[i + 1]?) [cV] (by simp) rfl, ?_⟩
      rw [wA]
      simp only [az, if_true, ai]
      cases Zl : cF X.L (i + 1) cV with
      | true => exact yes (by rw [nE]; simp [h1]) Zl _ (.pF xe e4)
      | false => exact no (by rw [Zl]; simp) _ (.pF xe e4)
    · have IC : (decide (kd = 1) == true) = false := by simp [h1]
      simp only [IC, aB, a8, aV, h1, cm, az, bq, if_false, ai]
      simp only [beq_true, a8, aV]
      exact no (by rw [nE]; simp [h1]) _ ⟨xe, hX.refl _ _⟩
   cases qp : ib.find? (fun p => p.1 = s) with
   | none =>
     simp only [Option.isSome_none, a8, show (false == true) = false from rfl, az, bq, if_false, ai, aV]
     exact rest
   | some p =>
     have h3 : ¬ kd = 3 := ZX _ True True qp rfl
     simp only [Option.isSome_some, dw, bp, aw, fT, lK jN, List.drop, fB, aW, h3, cm, az, if_true, ai, aV]
     exact rest
end
end Go.Rip
namespace Go.Rip
open Go.Proofs Go.RowKit
def sR (lev : Nat) : List (bf × Int) :=
 if lev = 2 then [(Ei, 17)] else if lev = 3 then [(zz, 18)] else if lev = 5 then [(wK, 21), (wL, 20)] else if lev = 6 then [(wG, 22), (wI, 23)] else if lev = 7 then [(wF, 24)] else if lev = 8 then [(Eg, 25)] else []
def Qe (lev : Nat) : AV := .eI ((sR lev).map fun p => .str p.1) ((sR lev).map fun p => .int .u8 p.2)
theorem N8 (lev : Nat) (h : lev = 2 \/ lev = 3 \/ lev = 5 \/ lev = 6 \/ lev = 7 \/ lev = 8) (U : St) : fq (some (.i, 185)) (some AV.jT) DG (.int .i64 (lev : Nat)) false U = .val (Qe lev) := by
 rcases h with rfl | rfl | rfl | rfl | rfl | rfl <;> rfl
theorem N9 (lev : Nat) (s : bf) (U : St) : fq (some (.s, 5)) (some (AV.int .u8 0)) (Qe lev) (.str s) true U = .val (.aQ [.int .u8 (match (sR lev).find? (fun p => p.1 = s) with | some p => p.2 | none => 0), .bool ((sR lev).find? (fun p => p.1 = s)).isSome]) := by
 have := rq s (.int .u8 0) ((sR lev).map fun p => (p.1, AV.int .u8 p.2))
 rw [List.map_map, List.map_map, List.find?_map] at this
 simp only [fq, kg, nX, Qe]
 rw [show ((sR lev).map fun p => AV.str p.1) = List.map ((fun p : bf × AV => AV.str p.1) ∘ fun p => (p.1, AV.int .u8 p.2)) (sR lev) from rfl, show ((sR lev).map fun p => AV.int .u8 p.2) = List.map ((fun p : bf × AV => p.2) ∘ fun p => (p.1, AV.int .u8 p.2)) (sR lev) from rfl, this]
 have e : ((fun p : bf × AV => decide (p.1 = s)) ∘ fun p : bf × Int => (p.1, AV.int .u8 p.2)) = fun p => decide (p.1 = s) := rfl
 rw [e]
 cases (sR lev).find? fun p => decide (p.1 = s) <;> rfl
theorem F5 (L : List Tk) (lev i : Nat) : DE L lev i = ((sR lev).find? (fun p => p.1 = oO L[i]?)).map (·.2) := by
 have hw : ∀ w : bf, w ≠ [] -> cF L i w = decide (w = oO L[i]?) := fun w h => by rw [Be h]; simp [eq_comm]
 unfold DE sR
 rw [hw Ei (by decide), hw zz (by decide), hw wL (by decide), hw wK (by decide), hw wG (by decide), hw wI (by decide), hw wF (by decide), hw Eg (by decide)]
 generalize oO L[i]? = s
 repeat' split
 all_goals simp_all
 all_goals (subst_vars; rfl)
section
variable {X : Rx} {aF U : St} {r k i : Nat} {kind : Int} {text : bf} {n m at_ : Int} {l : List Nd} {R : cB -> St -> Prop} {K' : AV -> St -> Prop} {Kp : AV -> St -> Prop}
theorem Ge (hr : U.box r = some (rd X i)) (hi : i <= X.L.length) (h : ∀ ae, cJ U ae -> R (.ret (.str (oO X.L[i]?))) ae) : af K 253 [.box r 0] U R := by
 refine Mv ?_
 unfold Mu
 refine nq hr hi 0 (by omega) fun bJ e1 => ?_
 rw [Nat.add_zero]
 have mV : ∃ kd s a, ow X.L[i]? = [.int .u8 kd, .str s, .int .i64 a] /\ oO X.L[i]? = if kd = 3 \/ kd = 4 then s else [] := by
  cases ht : X.L[i]? with
  | none => exact ⟨0, [], 0, rfl, rfl⟩
  | some t =>
    refine ⟨t.k, t.s, t.at_, rfl, ?_⟩
    have e3 : ((t.k : Int) = 3) = (t.k = 3) := by simp; omega
    have e4 : ((t.k : Int) = 4) = (t.k = 4) := by simp; omega
    simp only [oO, e3, e4]
 obtain ⟨kd, s, a, e, hsg⟩ := mV
 rw [e]
 rw [hsg] at h
 simp only [bu, lV]
 intro b hb
 have e2 := e1.new (x := .box [AV.int .u8 0, AV.str [], AV.int .i64 0]) hb
 rw [show NV.at b .box = AV.box b 0 from rfl, cA aL]
 refine ⟨⟨rfl, rfl, by simp⟩, ?_⟩
 have e3 := e2.set (x := .box (aA [AV.int .u8 0, AV.str [], AV.int .i64 0] 0 (ax (.agg [.int .u8 kd, .str s, .int .i64 a])))) (e1.fresh hb.1)
 generalize ln : (bJ.new b (.box [AV.int .u8 0, AV.str [], AV.int .i64 0])).set b (.box (aA [AV.int .u8 0, AV.str [], AV.int .i64 0] 0 (ax (.agg [.int .u8 kd, .str s, .int .i64 a])))) = cE at e3 ⊢
 have jN : cE.box b = some [.int .u8 kd, .str s, .int .i64 a] := by rw [<- ln, aS]; rfl
 simp only [aU, ai, ff jN, List.drop, bG, ck, aW, aI, aB, jl, bp]
 by_cases h3 : kd = 3
 · subst h3
   simp [ff jN, bG]
   exact aj.mk (h _ e3)
 · by_cases h4 : kd = 4
   · subst h4
     simp [ff jN, lK jN, bG]
     exact aj.mk (h _ e3)
   · simp [ff jN, lK jN, bG, h3, h4]
     refine aj.mk ?_
     have := h _ e3
     rw [if_neg (by omega)] at this
     exact this
theorem MG (S : Sk X aF r k i kind text n m at_ l U) (aJ : i < X.L.length) {bt : BT} {lit : Bool} (h : ∀ ae, Sk X aF r k (i + 1) kind text n m at_ l ae -> K' (.aQ []) ae) :
 (aq (some (false, 1)) (.box r 1) U).wp K U (fun v U => (ak .add bt lit v (.int .i64 1)).wp K U (fun v U => (aM (some (false, 1)) (.box r 1) v U).wp K U K' Kp) Kp) Kp := by
 have hs := X.small
 have hr := S.A.box
 simp only [ff hr, rd, List.drop, bG, cq]
 refine ⟨aZ (by omega) (by omega), ?_⟩
 rw [cA hr]
 refine ⟨⟨rfl, rfl, by simp [rd]⟩, h _ (S.gj (j := i + 1) ⟨?_, (hX.refl r U).set (.inr rfl)⟩ aJ (by omega))⟩
 rw [aS]; simp [aA, rd]
theorem dY.ne_nil : ∀ {b : Bool} {ks : List AV} {l : List Nd}, dY b ks l -> b = true -> l = [] -> ks = [] := by
 have h1 : ∀ {b : Bool} {ks : List AV} {l : List Nd}, dY b ks l -> b = false -> l ≠ [] := fun h e => by
  cases h with
  | mk _ _ => simp [node]
  | nil => cases e
  | cons _ _ => cases e
 intro b ks l h e hl
 cases h with
 | mk _ _ => cases e
 | nil => rfl
 | cons a c => exact absurd (List.append_eq_nil_iff.1 hl).1 (h1 a rfl)
theorem dY.cS {a : AV} {ns : List Nd} (hk : dY false [a] ns) : a.cS = true /\ ax a = [a] := by
 generalize hb : false = b at hk
 generalize hl : [a] = la at hk
 cases hk with
 | mk _ _ => cases hl; exact ⟨rfl, rfl⟩
 | nil => cases hl
 | cons _ _ => cases hb
theorem DZ {a : AV} {ns : List Nd} (S : Sk X aF r k i kind text n m at_ [] U) (hk : dY false [a] ns) (h : ∀ a' ae, dY false [a'] (node kind text n m at_ ns) -> eQ r (rd X i) aF ae -> K' a' ae) :
 (aP (some (87, 1)) (some [AV.a7]) 1 false [(0, a)]).wp K U (fun v U => af K 103 [.box k 0, v] U (au K' Kp)) Kp := by
 obtain ⟨ks, h1, h2, h3⟩ := S.M
 have := h2.ne_nil rfl rfl
 subst this
 rw [fO]
 refine ⟨by omega, ?_⟩
 rw [eM (o := 0) (s := 1) rfl]
 refine ⟨⟨hk.cS.1, by rw [hk.cS.2]; rfl, by simp [bL]⟩, ?_⟩
 rw [gX, hk.cS.2]
 refine ⟨rfl, ?_⟩
 exact Gq (l2 := [a]) h1 S.A (by omega) rfl (by simp) fun ae M A => M.done (h2.snoc hk) A fun a' ae hk A => h a' ae hk A
theorem O0 {a b : AV} {ns ms : List Nd} (S : Sk X aF r k i kind text n m at_ [] U) (hk : dY false [a] ns) (fm : dY false [b] ms) (h : ∀ a' ae, dY false [a'] (node kind text n m at_ (ns ++ ms)) -> eQ r (rd X i) aF ae -> K' a' ae) :
 (aP (some (87, 1)) (some [AV.a7]) 2 false [(0, a), (1, b)]).wp K U (fun v U => af K 103 [.box k 0, v] U (au K' Kp)) Kp := by
 obtain ⟨ks, h1, h2, h3⟩ := S.M
 have := h2.ne_nil rfl rfl
 subst this
 rw [fO]
 refine ⟨by omega, ?_⟩
 rw [eM (o := 0) (s := 1) rfl]
 refine ⟨⟨hk.cS.1, by rw [hk.cS.2]; rfl, by simp [bL]⟩, ?_⟩
 rw [hk.cS.2]
 rw [eM (o := 1) (s := 1) rfl]
 refine ⟨⟨fm.cS.1, by rw [fm.cS.2]; rfl, by simp [bL, aA]⟩, ?_⟩
 rw [gX, fm.cS.2]
 refine ⟨rfl, ?_⟩
 exact Gq (l2 := [a, b]) h1 S.A (by omega) rfl (by simp) fun ae M A => M.done (by simpa using (h2.snoc hk).snoc fm) A fun a' ae hk A => h a' ae hk A
def Cb (X : Rx) (fu : Nat) : Prop := ∀ f', f' <= fu -> ∀ j lev, j <= X.L.length -> 2 <= lev -> lev <= 9 -> 40 * (X.L.length - j) + (11 - lev) <= f' -> Co X j lev (ku X.L X.E f' lev j) /\ Gd X.L.length (j + 1) j (ku X.L X.E f' lev j)
theorem R2 {fu lev : Nat} (hi : i <= X.L.length) (h2 : 2 <= lev) (h9 : lev <= 9) (hf : 40 * (X.L.length - i) + (11 - lev) <= fu + 1) (hA : lev = 9 -> Ct X 252 i (tk X.L X.E fu i)) (hS : Cb X fu) : Co X i lev (ku X.L X.E (fu + 1) lev i) := by
 intro r U R hr O
 refine LX ?_
 unfold LW
 have hs := X.small
 simp only [aW, ai, aX]
 refine ⟨fun e9 => ?_, fun n9 => ⟨fun e4 => ?_, fun n4 => ?_⟩⟩
 · have e9 : lev = 9 := by omega
   rw [ku, if_pos e9] at O
   exact Ak (hA e9) hr O
 · have e4 : lev = 4 := by omega
   have n9 : ¬ lev = 9 := by omega
   rw [ku, if_neg n9, if_pos e4] at O
   refine gp hr hi fun k bJ S => ?_
   refine zl S (fun hw bX S => ?_) fun hw bX S => ?_
   · rw [if_pos hw] at O
     simp only [bh]
     have aJ := dh hw
     obtain ⟨g1, g2⟩ := hS fu (df _) (i + 1) 4 aJ (by omega) (by omega) (by omega)
     refine g1 r bX _ S.A.box ⟨fun ns j e hj a ae hk A => ?_, fun j e ae A => O.bad j (by rw [e]; rfl) ae (S.A.trans A)⟩
     rw [e] at g2 O
     have fM : i + 1 < j := g2.1
     refine DZ (S.gj A hj (by omega)) hk fun a' ae FC A' => ?_
     exact aj.mk (O.ok _ _ rfl hj a' ae FC A')
   · rw [if_neg (by rw [hw]; simp)] at O
     simp only [aV, cq]
     refine ⟨aZ (by omega) (by omega), ?_⟩
     obtain ⟨g1, g2⟩ := hS fu (df _) i 5 hi (by omega) (by omega) (by omega)
     subst e4
     refine g1 r bX _ S.A.box ?_
     replace O := O.gj S.A
     exact ⟨fun ns j e hj a ae hk A => aj.mk (O.ok ns j e hj a ae hk A), O.bad⟩
 · have n9 : ¬ lev = 9 := by omega
   have n4 : ¬ lev = 4 := by omega
   rw [ku, if_neg n9, if_neg n4] at O
   rw [cq]
   refine ⟨aZ (by omega) (by omega), ?_⟩
   obtain ⟨g1, g2⟩ := hS fu (df _) i (lev + 1) hi (by omega) (by omega) (by omega)
   rw [show ((lev : Nat) : Int) + 1 = ((lev + 1 : Nat) : Int) by omega]
   refine g1 r U _ hr ⟨fun ns j e hj a bJ hk A => ?_, fun j e ae A => O.bad j (by rw [e]; rfl) ae A⟩
   rw [e] at g2 O
   have fM : i < j := g2.1
   replace O : Out X r bJ R (tS X.L X.E fu lev ns j) := Out.gj O A
   refine ⟨fun mm v0 v1 v6 ae => ∃ left j f', mm = X.L.length - j /\ v0 = .box r 0 /\ v1 = .int .i64 (lev : Nat) /\ j <= X.L.length /\ i < j /\ 40 * (X.L.length - j) + 1 <= f' /\ f' <= fu /\ dY false [v6] left /\ ae.box r = some (rd X j) /\ Out X r ae R (tS X.L X.E f' lev left j),
    ⟨_, ns, j, fu, rfl, rfl, rfl, hj, fM, by omega, df _, hk, A.box, O⟩, ?_⟩
   clear hk A O fM hj e g1 g2
   rintro mm v0 v1 v6 bX ⟨left, j, f', rfl, rfl, rfl, hj, fM, PJ, UD, hk, qz, O⟩
   cases f' with
   | zero => omega
   | succ f' =>
     rw [tS, F5] at O
     simp only [dk, aw, aU, ck, lK qz, rd, List.drop, fB, N8 lev (by omega)]
     refine Ge qz hj fun cE e3 => ?_
     simp only [bu]
     refine ⟨?_, ?_, ?_⟩
     · intro b hb
       simp only [dM, DG, jA, jU, lg, ep, List.not_mem_nil, or_false] at hb
       subst hb
       cases e : bX.live b with
       | none => exact absurd e (cK qz)
       | some x => exact e3 b x e
     · intro b hb
       simp [dM, Qe] at hb
     simp only [N9, aw, bR, List.drop, fB, cU, ai]
     have A3 : eQ r (rd X j) bX cE := .pF qz e3
     cases hop : (sR lev).find? fun p => p.1 = oO X.L[j]? with
     | none =>
       rw [hop] at O
       simp only [Option.isSome_none, da, bh]
       exact aj.mk (O.ok _ _ rfl hj _ cE hk A3)
     | some p =>
       rw [hop] at O
       replace O := O.gj A3
       simp only [Option.isSome_some, bV, aV]
       have aJ : j < X.L.length := F6 (lev := lev) (k := p.2) (by rw [F5, hop]; rfl)
       refine gp A3.box hj fun k cW S => ?_
       simp only [dk, ai, aU, ck]
       refine MG S aJ fun dV S => ?_
       simp only [aW, ai, aX]
       simp only [Option.map_some] at O
       refine ⟨fun e8 => ?_, fun n8 => ?_⟩
       · have e8 : lev = 8 := by omega
         rw [if_pos e8] at O
         refine pe S O fun x ot S O => HM S fun nM S => ?_
         have il := S.hi
         refine DZ S hk fun a' ae FC A' => ?_
         exact ⟨_, by omega, _, j + 1 + 1, f', rfl, rfl, rfl, S.hi, by omega, by omega, by omega, FC, A'.box, O.gj A'⟩
       · have n8 : ¬ lev = 8 := by omega
         rw [if_neg n8] at O
         simp only [cq]
         refine ⟨aZ (by omega) (by omega), ?_⟩
         obtain ⟨g1, g2⟩ := hS f' (by omega) (j + 1) (lev + 1) aJ (by omega) (by omega) (by omega)
         rw [show ((lev : Nat) : Int) + 1 = ((lev + 1 : Nat) : Int) by omega]
         refine g1 r dV _ S.A.box ⟨fun ns j2 e ov b ot YY A => ?_, fun j e ae A => O.bad j (by rw [e]; rfl) ae (S.A.trans A)⟩
         rw [e] at g2 O
         have zV : j + 1 < j2 := g2.1
         refine O0 (S.gj A ov (by omega)) hk YY fun a' ae FC A' => ?_
         replace O : Out X r cE R (if lev = 5 then .ok (node p.2 [] 0 0 (eL X.L X.E j) (left ++ ns)) j2 else tS X.L X.E f' lev (node p.2 [] 0 0 (eL X.L X.E j) (left ++ ns)) j2) := O
         refine ⟨fun e5 => ?_, fun n5 => ?_⟩
         · rw [if_pos (by omega)] at O
           exact aj.mk (O.ok _ _ rfl ov a' ae FC A')
         · rw [if_neg (by omega)] at O
           exact ⟨_, by omega, _, j2, f', rfl, rfl, rfl, ov, by omega, by omega, by omega, FC, A'.box, O.gj A'⟩
end
end Go.Rip
namespace Go.Rip
open Go.Proofs Go.RowKit
theorem dY.size {a : AV} {l : List Nd} (h : dY false [a] l) : ∃ x r, l = x :: r /\ x.size = (l.length : Int) := by
 generalize hb : false = b at h
 generalize hl : [a] = la at h
 cases h with
 | mk _ _ => exact ⟨_, _, rfl, by simp [node]⟩
 | nil => cases hl
 | cons _ _ => cases hb
theorem dY.count : ∀ {ks ks' : List AV} {l : List Nd}, dY true ks l -> dY true ks' l -> ks.length = ks'.length
 | [], ks', l, h, h' => by
   have : l = [] := by
    generalize hb : true = b at h
    generalize hl : ([] : List AV) = la at h
    cases h with
    | mk _ _ => cases hb
    | nil => rfl
    | cons _ _ => cases hl
   rw [h'.ne_nil rfl this]
 | a :: ks, ks', l, h, h' => by
   generalize hb : true = b at h
   generalize hl : a :: ks = la at h
   cases h with
   | mk _ _ => cases hb
   | nil => cases hl
   | @cons a1 ks1 l1 l2 h1 h2 =>
     cases hl
     obtain ⟨x, r, e1, e2⟩ := h1.size
     generalize IP : l1 ++ l2 = ll at h'
     generalize dQ : true = b' at h'
     cases h' with
     | mk _ _ => cases dQ
     | nil => rw [e1] at IP; cases IP
     | @cons a3 ks3 l3 l4 h3 h4 =>
       obtain ⟨y, r', e3, e4⟩ := h3.size
       have xf : x = y := by rw [e1, e3] at IP; simpa using congrArg List.head? IP
       have hlen : l1.length = l3.length := by rw [xf] at e2; omega
       obtain ⟨_, h24⟩ := List.append_inj IP hlen
       subst h24
       simp [dY.count h2 h4]
section
variable {X : Rx} {aF U : St} {r k i : Nat} {kind : Int} {text : bf} {n m at_ : Int} {l : List Nd} {R : cB -> St -> Prop} {K' : AV -> St -> Prop} {Kp : AV -> St -> Prop} {w : bf}
theorem O3 {q : Unit -> Nat -> PR (List Nd)} (hr : U.box r = some (rd X i)) (hi : i <= X.L.length) (O : Out X r U R ((cI X.L w i).bind q)) (h : ∀ ae, i + 1 <= X.L.length -> eQ r (rd X (i + 1)) U ae -> Out X r ae R (q () (i + 1)) -> K' (.aQ []) ae) : af K 102 [.box r 0, .str w] U (au K' (aa R)) :=
 z7 hr hi w (fun e hl ae A => h ae hl A (by rw [e] at O; exact Out.gj O A)) fun e ae A => O.bad _ (by rw [e]; rfl) _ A
theorem Al (S : Sk X aF r k i kind text n m at_ l U) (hb : cF X.L i w = true) (h : ∀ ae, Sk X aF r k (i + 1) kind text n m at_ l ae -> K' (.aQ []) ae) : af K 102 [.box r 0, .str w] U (au K' Kp) :=
 z7 S.A.box S.hi w (fun e hl ae A => h ae (S.gj A hl (by omega))) fun e ae A => by simp [cI, hb] at e
structure Below (X : Rx) (fu : Nat) : Prop where
 term : ∀ f', f' <= fu -> ∀ j, j <= X.L.length -> 40 * (X.L.length - j) + 11 <= f' -> Ct X 109 j (um X.L X.E f' j)
 first : ∀ f', f' <= fu -> ∀ j, j <= X.L.length -> 40 * (X.L.length - j) + 10 <= f' -> Ct X 169 j (cC X.L X.E f' j)
 oper : ∀ f', f' <= fu -> ∀ j lev, j <= X.L.length -> 2 <= lev -> lev <= 9 -> 40 * (X.L.length - j) + (11 - lev) <= f' -> Co X j lev (ku X.L X.E f' lev j)
 atom : ∀ f', f' <= fu -> ∀ j, j <= X.L.length -> 40 * (X.L.length - j) + 1 <= f' -> Ct X 252 j (tk X.L X.E f' j)
 arg : ∀ f', f' <= fu -> ∀ j, j <= X.L.length -> 40 * (X.L.length - j) + 12 <= f' -> Ct X 269 j (oA X.L X.E f' j)
theorem Below.Is {fu i : Nat} (B : Below X fu) (hf : 40 * (X.L.length - i) + 10 <= fu + 40) : gi X fu i := fun j hj fM =>
 ⟨B.first fu (df _) j hj (by omega), (zR fu).2.2.1 j hj (by omega)⟩
theorem Below.ops {fu : Nat} (B : Below X fu) : Cb X fu := fun f' hf j lev hj h2 h9 he => ⟨B.oper f' hf j lev hj h2 h9 he, (zR f').2.2.2.1 j lev hj h9 he⟩
theorem Re {fu : Nat} (B : Below X fu) (he : 40 * (X.L.length - i) + 12 <= fu) {q : List Nd -> Nat -> PR (List Nd)} (S : Sk X aF r k i kind text n m at_ l U) (O : Out X r aF R ((oA X.L X.E fu i).bind fun a j => (pK X.L X.E fu a j).bind q))
 (h : ∀ ns j ae, j <= X.L.length -> i < j -> Sk X aF r k j kind text n m at_ (l ++ ns) ae -> Out X r aF R (q ns j) -> K' (.aQ []) ae) : af K 106 [.box r 0, .box k 0, .func (.func 269) [.box r 0] []] U (au K' (aa R)) := by
 refine BA ?_
 unfold DS
 have jC : dB K.P 269 = true := by kernel_rfl
 rw [B8 jC (c := [])]
 simp only [zb]
 have C : ∀ f', f' <= fu -> ∀ j, j <= X.L.length -> 40 * (X.L.length - j) + 12 <= f' -> Ct X 269 j (oA X.L X.E f' j) /\ Gd X.L.length (j + 1) j (oA X.L X.E f' j) := fun f' h1 j h2 h3 => ⟨B.arg f' h1 j h2 h3, (zR f').2.2.2.2.2.2.2 j h2 h3⟩
 obtain ⟨c1, c2⟩ := C fu (df _) i S.hi he
 refine kG S c1 c2 O fun ns j bJ hj fM S1 O1 => ?_
 refine ⟨fun mm v0 v1 v2 ae => ∃ acc j f', mm = X.L.length - j /\ v0 = .box r 0 /\ v1 = .box k 0 /\ v2 = .func (.func 269) [.box r 0] [] /\ j <= X.L.length /\ i < j /\ 40 * (X.L.length - j) + 1 <= f' /\ f' <= fu /\ Sk X aF r k j kind text n m at_ (l ++ acc) ae /\ Out X r aF R ((pK X.L X.E f' acc j).bind q),
  ⟨_, ns, j, fu, rfl, rfl, rfl, rfl, hj, fM, by omega, df _, S1, O1⟩, ?_⟩
 rintro mm v0 v1 v2 bX ⟨acc, j2, f', rfl, rfl, rfl, rfl, ov, zV, UD, hf3, S2, O2⟩
 cases f' with
 | zero => omega
 | succ f' =>
   rw [pK] at O2
   refine zl S2 (fun hw cE S3 => ?_) (fun hw cE S3 => ?_)
   · simp only [bh]
     rw [if_pos hw] at O2
     have aJ := dh hw
     rw [B8 jC (c := [])]
     have e2 : ((oA X.L X.E f' (j2 + 1)).bind fun b j => pK X.L X.E f' (acc ++ b) j).bind q = (oA X.L X.E f' (j2 + 1)).bind fun b j => (pK X.L X.E f' (acc ++ b) j).bind q := by
      cases oA X.L X.E f' (j2 + 1) <;> rfl
     rw [e2] at O2
     obtain ⟨c1, c2⟩ := C f' (by omega) _ aJ (by omega)
     refine kG S3 c1 c2 O2 fun Vz j3 cW FB aac S4 O4 => ?_
     exact ⟨_, by omega, acc ++ Vz, j3, f', rfl, rfl, rfl, rfl, FB, by omega, by omega, by omega, by rw [<- pw]; exact S4, O4⟩
   · simp only [aV]
     rw [if_neg (by rw [hw]; simp)] at O2
     exact aj.mk (h acc j2 cE ov zV S3 O2)
theorem TU {fu : Nat} (B : Below X fu) (hi : i <= X.L.length) (he : 40 * (X.L.length - i) + 12 <= fu + 1) : Ct X 269 i (oA X.L X.E (fu + 1) i) := by
 intro r U R hr O
 refine Mz ?_
 unfold My
 rw [oA] at O
 have hs := X.small
 have hF := B.Is (i := i) (by omega)
 refine MH hr hi fun b bJ hb A1 => ?_
 replace O := O.gj A1
 cases b with
 | true =>
   simp only [bh]
   rw [if_pos hb] at O
   refine gp A1.box hi fun k bX S => ?_
   refine Al S hb fun cE S => eu S O fun cE S O => ?_
   refine RI (by kernel_rfl) (fun i hi => Fj hi) (fun i hi => tm hi) (by omega) (by omega) S O fun ns j cW hj fM S O => ?_
   refine eu S O fun dV S O => ?_
   exact jB hF (by omega) S O fun ns j dV hj fM S O => eP S O
 | false =>
   simp only [aV]
   rw [if_neg (by rw [hb]; simp)] at O
   refine MH A1.box hi fun b2 bX gK A2 => ?_
   replace O := O.gj A2
   cases b2 with
   | true =>
     simp only [bh]
     rw [if_pos gK] at O
     refine gp A2.box hi fun k bX S => ?_
     refine Al S gK fun cE S => eu S O fun cE S O => ?_
     refine jB hF (by omega) S O fun ns j dV hj fM S O => eu S O fun _ S O => eu S O fun _ S O => ?_
     refine kG S (Fj S.hi) (tm S.hi) O fun ns j dV hj fM S O => eu S O fun _ S O => ?_
     exact jB hF (by omega) S O fun ns j dV hj fM S O => eu S O fun _ S O => eP S O
   | false =>
     simp only [aV]
     rw [if_neg (by rw [gK]; simp)] at O
     exact Ak (B.term fu (df _) i hi (by omega)) A2.box O
end
end Go.Rip
namespace Go.Rip
open Go.Proofs Go.RowKit
theorem nH {U : St} {b : Nat} {ks vs : List AV} : (U.set b (.mp ks vs)).mp b = some (ks, vs) := by simp [St.mp, ez]
theorem JC {U : St} {b : Nat} {ks vs : List AV} : (U.new b (.mp ks vs)).mp b = some (ks, vs) := by simp [St.mp, ng]
theorem Ho {U ae : St} {b : Nat} (h : ae.live b = U.live b) : ae.mp b = U.mp b := by simp [St.mp, h]
theorem cJ.mp {U ae : St} {b : Nat} {x : List AV × List AV} (h : cJ U ae) (k : U.mp b = some x) : ae.mp b = some x := by
 cases e : U.live b with
 | none => simp [St.mp, e] at k
 | some y => rw [Ho ((h b y e).trans e.symm)]; exact k
theorem td {C : cu} {U : St} {K' : AV -> St -> Prop} {Kp : AV -> St -> Prop} {m : Nat} {ks vs ks' vs' : List AV} {s : bf} {v : AV} {t : TypeId} (h : U.mp m = some (ks, vs)) (hf : jG .s (.str s) ks 0 = some none) (hi : fh (.str s) v ks vs = (ks', vs')) :
 (ic (some (.s, t)) (.mp m) (.str s) v U).wp C U K' Kp = K' (.aQ []) (U.set m (.mp ks' vs')) := by
 simp only [ic, h, hf, nX, hi]; rfl
def o8 : List (bf × Int) := [(o6, 32), (gq, 28), (kQ, 30), (mS, 31), (jq, 29), (fU, 27)]
theorem Rh (s : bf) {U : St} {m : Nat} (h : U.mp m = some (o8.map fun p => .str p.1, o8.map fun p => .int .u8 p.2)) : fq (some (.s, 5)) (some (AV.int .u8 0)) (.mp m) (.str s) true U = .val (.aQ [.int .u8 (match o8.find? (fun p => p.1 = s) with | some p => p.2 | none => 0), .bool (o8.find? (fun p => p.1 = s)).isSome]) := by
 have := rq s (.int .u8 0) (o8.map fun p => (p.1, AV.int .u8 p.2))
 rw [List.map_map, List.map_map, List.find?_map] at this
 simp only [fq, kg, nX, h]
 rw [show (o8.map fun p => AV.str p.1) = List.map ((fun p : bf × AV => AV.str p.1) ∘ fun p => (p.1, AV.int .u8 p.2)) o8 from rfl, show (o8.map fun p => AV.int .u8 p.2) = List.map ((fun p : bf × AV => p.2) ∘ fun p => (p.1, AV.int .u8 p.2)) o8 from rfl, this]
 have e : ((fun p : bf × AV => decide (p.1 = s)) ∘ fun p : bf × Int => (p.1, AV.int .u8 p.2)) = fun p => decide (p.1 = s) := rfl
 rw [e]
 cases o8.find? fun p => decide (p.1 = s) <;> rfl
section
variable {X : Rx} {aF U : St} {r k i : Nat} {kind : Int} {text : bf} {n m at_ : Int} {l : List Nd} {R : cB -> St -> Prop} {K' : AV -> St -> Prop} {Kp : AV -> St -> Prop} {w : bf}
theorem Ri {fu : Nat} (B : Below X fu) (hi : i <= X.L.length) (he : 40 * (X.L.length - i) + 1 <= fu + 1) : Ct X 252 i (tk X.L X.E (fu + 1) i) := by
 intro r U R hr O
 refine Mt ?_
 unfold Ms
 have hs := X.small
 rw [lV]
 intro mm Y6
 have e1 : cJ U (U.new mm (.mp [] [])) := (cJ.refl U).new Y6
 have hn := Y6.1
 rw [show NV.at mm .mp = AV.mp mm from rfl]
 generalize NT : U.new mm (.mp [] []) = bJ at e1 ⊢
 have m1 : bJ.mp mm = some ([], []) := by rw [<- NT]; exact JC
 rw [td (ks' := [.str fU]) (vs' := [.int .u8 27]) m1 rfl rfl]
 rw [td (ks' := [.str gq, .str fU]) (vs' := [.int .u8 28, .int .u8 27]) nH rfl rfl]
 rw [td (ks' := [.str gq, .str jq, .str fU]) (vs' := [.int .u8 28, .int .u8 29, .int .u8 27]) nH rfl rfl]
 rw [td (ks' := [.str gq, .str kQ, .str jq, .str fU]) (vs' := [.int .u8 28, .int .u8 30, .int .u8 29, .int .u8 27]) nH rfl rfl]
 rw [td (ks' := [.str gq, .str kQ, .str mS, .str jq, .str fU]) (vs' := [.int .u8 28, .int .u8 30, .int .u8 31, .int .u8 29, .int .u8 27]) nH rfl rfl]
 rw [td (ks' := [.str o6, .str gq, .str kQ, .str mS, .str jq, .str fU]) (vs' := [.int .u8 32, .int .u8 28, .int .u8 30, .int .u8 31, .int .u8 29, .int .u8 27]) nH rfl rfl]
 have e2 := (((((e1.set (x := .mp [.str fU] [.int .u8 27]) hn).set (x := .mp [.str gq, .str fU] [.int .u8 28, .int .u8 27]) hn).set (x := .mp [.str gq, .str jq, .str fU] [.int .u8 28, .int .u8 29, .int .u8 27]) hn).set (x := .mp [.str gq, .str kQ, .str jq, .str fU] [.int .u8 28, .int .u8 30, .int .u8 29, .int .u8 27]) hn).set (x := .mp [.str gq, .str kQ, .str mS, .str jq, .str fU] [.int .u8 28, .int .u8 30, .int .u8 31, .int .u8 29, .int .u8 27]) hn).set (x := .mp [.str o6, .str gq, .str kQ, .str mS, .str jq, .str fU] [.int .u8 32, .int .u8 28, .int .u8 30, .int .u8 31, .int .u8 29, .int .u8 27]) hn
 generalize NU : ((((((bJ.set mm (.mp [.str fU] [.int .u8 27])).set mm _).set mm _).set mm _).set mm _).set mm _) = bX at e2 ⊢
 have m2 : bX.mp mm = some (o8.map fun p => .str p.1, o8.map fun p => .int .u8 p.2) := by rw [<- NU]; exact nH
 have qz := e2.bo hr
 refine Ge qz hi fun cE e3 => ?_
 simp only [bu, Rh _ (e3.mp m2), ai, bR, List.drop, bG]
 have A3 : eQ r (rd X i) U cE := .pF hr (e2.trans e3)
 replace O := O.gj A3
 have hw : ∀ w : bf, w ≠ [] -> cF X.L i w = decide (w = oO X.L[i]?) := fun w h => by rw [Be h]; simp [eq_comm]
 rw [tk, hw fU (by decide), hw gq (by decide), hw jq (by decide), hw kQ (by decide), hw mS (by decide), hw o6 (by decide)] at O
 simp only [cP] at O
 cases Fz : o8.find? fun p => p.1 = oO X.L[i]? with
 | some p =>
   simp only [Option.isSome_some, bh]
   have hp : p ∈ o8 := List.mem_of_find?_eq_some Fz
   have PZ : p.1 = oO X.L[i]? := by simpa using List.find?_some Fz
   have bQ : p.1 ≠ [] := by
    have : ∀ p ∈ o8, p.1 ≠ [] := by decide
    exact this p hp
   have aJ : i < X.L.length := dh (w := p.1) (by rw [hw _ bQ, PZ]; simp)
   refine gp A3.box hi fun k cW S => ?_
   simp only [dk, ai, aU, ck]
   refine MG S aJ fun dV S => ?_
   intro j hj
   simp only [aW, ai, aI, aB, jl, bp]
   rw [<- PZ] at O
   simp only [o8, ep, List.not_mem_nil, or_false] at hp
   have t1 : (o6 = fU) = False := by simp; decide
   rcases hp with rfl | rfl | rfl | rfl | rfl | rfl
   · simp (decide := true) only [if_false, if_true] at O
     simp (decide := true) [bh]
     exact nK S O fun x _ S O => nL S fun _ S => hj _ _ (eP S O)
   · simp (decide := true) only [if_false, if_true] at O
     simp (decide := true) [aV]
     exact hj _ _ (eP S O)
   · simp (decide := true) only [if_false, if_true] at O
     simp (decide := true) [aV]
     exact hj _ _ (eP S O)
   · simp (decide := true) only [if_false, if_true] at O
     simp (decide := true) [bh]
     exact nK S O fun x _ S O => nL S fun _ S => hj _ _ (eP S O)
   · simp (decide := true) only [if_false, if_true] at O
     simp (decide := true) [aV]
     exact hj _ _ (eP S O)
   · simp (decide := true) only [if_false, if_true] at O
     simp (decide := true) [aV]
     exact hj _ _ (eP S O)
 | none =>
   simp only [Option.isSome_none, aV]
   have eV : ∀ w ∈ o8.map (·.1), ¬ w = oO X.L[i]? := fun w hw e => by
    rw [List.find?_eq_none] at Fz
    obtain ⟨p, hp, rfl⟩ := List.mem_map.1 hw
    simpa [e] using Fz p hp
   rw [if_neg (eV _ (by decide)), if_neg (eV _ (by decide)), if_neg (eV _ (by decide)), if_neg (eV _ (by decide)), if_neg (eV _ (by decide)), if_neg (eV _ (by decide))] at O
   refine Dt A3.box hi o7 (fun hb cW A4 => ?_) (fun hb cW e4 => ?_)
   · simp only [bu, bh]
     rw [if_pos hb] at O
     have aJ := dh hb
     replace O := O.gj A4
     have g2 := (zR (L := X.L) (E := X.E) fu).1 (i + 1) aJ (by omega)
     refine B.term fu (df _) (i + 1) aJ (by omega) r cW _ A4.box ⟨fun ns j e hj a ae hk A => ?_, fun j e ae A => O.bad j (by rw [e]; rfl) ae A⟩
     rw [e] at O
     refine O3 A.box hj (Out.gj O A) fun dV hj5 A5 O => ?_
     exact aj.mk (O.ok _ _ rfl hj5 a dV hk ⟨A5.box, hX.refl _ _⟩)
   · simp only [bu, aV]
     rw [if_neg (by rw [hb]; simp)] at O
     have A4 : eQ r (rd X i) cE cW := .pF A3.box e4
     replace O := O.gj A4
     refine nq A4.box hi 0 (by omega) fun dV e5 => ?_
     rw [Nat.add_zero]
     have A5 : eQ r (rd X i) cW dV := .pF A4.box e5
     replace O := O.gj A5
     obtain ⟨kd, s, a, e, hm⟩ := rH X.L[i]?
     rw [e]
     simp only [bu, GG, List.drop, bG, aW, ai, aX]
     have fm : rV X.L i 2 = true ↔ kd = 2 := by
      refine Iff.trans ?_ (hm 2 (by omega)).symm
      unfold rV
      cases ht : X.L[i]? with
      | none => simp
      | some t =>
        rw [ht] at e; simp only [ow, mP, List.cons.injEq, AV.str.injEq, true_and] at e
        simp [e.2.1]
     refine ⟨fun h2 => ?_, fun h2 => ?_⟩
     · rw [if_pos (fm.2 h2)] at O
       refine gp A5.box hi fun k ot S => ?_
       simp only [dk, ai, aU, ck]
       exact pe S O fun x _ S O => HM S fun _ S => eP S O
     · rw [if_neg (fun h => h2 (fm.1 h))] at O
       refine gp A5.box hi fun k ot S => ?_
       simp only [dk, ai, aU, ck]
       refine nK S O fun x _ S O => nL S fun _ S => ?_
       intro j hj
       refine zl S (fun hw nM S => ?_) fun hw nM S => ?_
       · simp only [bh]
         rw [if_pos hw] at O
         have hh := S.hi
         refine Sd S fun _ S => Re B (by omega) S O fun ns j2 BF ov zV S O => ?_
         exact eu S O fun _ S O => hj _ _ (eP S O)
       · simp only [aV]
         rw [if_neg (by rw [hw]; simp)] at O
         exact hj _ _ (eP S O)
end
end Go.Rip
namespace Go.Rip
open Go.Proofs Go.RowKit
section
variable {X : Rx} {aF U : St} {r k i : Nat} {kind : Int} {text : bf} {n m at_ : Int} {l : List Nd} {R : cB -> St -> Prop} {K' : AV -> St -> Prop} {Kp : AV -> St -> Prop} {w : bf}
theorem Sc {a : AV} {ns : List Nd} (S : Sk X aF r k i kind text n m at_ [] U) (hi : 1 <= i) (hk : dY false [a] ns) (h : ∀ ae, Sk X aF r k i kind text n m at_ ns ae -> K' (.box k 0) ae) :
 (aP (some (87, 1)) (some [AV.a7]) 1 false [(0, a)]).wp K U (fun v U => af K 103 [.box k 0, v] U (au K' (aa R))) (aa R) :=
 DY S (fun ks h1 h2 h3 => ⟨ks, h1, h2, by rw [h2.ne_nil rfl rfl]; simpa using hi⟩) hk fun ae S => h ae (by simpa using S)
theorem NG {U : St} {v : AV} {e sz n : Nat} {l : List AV} (h : Grow U v e sz n l) : bB (some false) v = .val (.int .i64 n) := by
 rcases h with ⟨rfl, rfl, rfl⟩ | ⟨τ, rfl, _⟩ <;> rfl
theorem Sf {fu : Nat} (B : Below X fu) (hi : i <= X.L.length) (he : 40 * (X.L.length - i) + 11 <= fu + 1) : Ct X 109 i (um X.L X.E (fu + 1) i) := by
 intro r U R hr O
 refine Kd ?_
 unfold Kc
 have hs := X.small
 rw [um] at O
 have g := (zR (L := X.L) (E := X.E) fu).2.2.1 i hi (by omega)
 refine B.first fu (df _) i hi (by omega) r U _ hr ⟨fun ns j e hj a bJ hk A1 => ?_, fun j e ae A => O.bad j (by rw [e]; rfl) ae A⟩
 rw [e] at O g
 have fM : i < j := g.1
 have O1 : Out X r bJ R (x7 X.L X.E fu (eL X.L X.E j) ns 1 j) := Out.gj O A1
 clear O e g
 refine gp A1.box hj fun k bX S => ?_
 refine Sc S (by omega) hk fun cE S => ?_
 intro jj xd
 have fin : ∀ (acc : List Nd) (many q : Nat) (ae : St), Sk X bJ r k q 9 [] 0 0 (eL X.L X.E j) acc ae -> (∃ ks, dY true ks acc /\ ks.length = many) -> (many = 1 -> acc = ns) -> Out X r bJ R (.ok (if many = 1 then acc else node 9 [] 0 0 (eL X.L X.E j) acc) q) -> jj a (.box k 0) ae := by
  intro acc many q ae S ⟨Zr, AU, nU⟩ h1 O
  refine xd _ _ _ ?_
  have P0 := S.hi
  have hA' := S.A
  obtain ⟨ks, M, Y1, hle⟩ := S.M
  have hl : ks.length = many := (Y1.count AU).trans nU
  obtain ⟨kv, b1, b2, b3, b4⟩ := M.box
  simp only [dk, ai, aU, ck, ff b1, rk, List.drop, bG, NG b2, aW, aX, hl]
  refine ⟨fun h => ?_, fun h => ?_⟩
  · have h : many = 1 := by omega
    rw [if_pos h] at O
    have := h1 h
    subst this
    exact aj.mk (O.ok _ _ rfl P0 a ae hk hA')
  · rw [if_neg (by omega)] at O
    exact eP S O
 refine ⟨fun mm v0 v3 v4 ae => ∃ acc many q f', mm = X.L.length - q /\ v0 = .box r 0 /\ v3 = a /\ v4 = .box k 0 /\ i < q /\ 40 * (X.L.length - q) + 1 <= f' /\ f' <= fu /\ Sk X bJ r k q 9 [] 0 0 (eL X.L X.E j) acc ae /\ (∃ ks, dY true ks acc /\ ks.length = many) /\ (many = 1 -> acc = ns) /\ 1 <= many /\ Out X r bJ R (x7 X.L X.E f' (eL X.L X.E j) acc many q),
  ⟨_, ns, 1, j, fu, rfl, rfl, rfl, rfl, fM, by omega, df _, S, ⟨[a], hk.one, rfl⟩, fun _ => rfl, df _, O1⟩, ?_⟩
 clear O1 S fM
 rintro mm v0 v3 v4 cW ⟨acc, many, q, f', rfl, rfl, rfl, rfl, hiq, PJ, UD, S, gL, FF, PS, O⟩
 cases f' with
 | zero => omega
 | succ f' =>
   rw [x7] at O
   have hq := S.hi
   refine Wb S fun b dV hb S => ?_
   cases b with
   | false =>
     simp only [aV]
     rw [if_neg (by rw [hb]; simp)] at O
     exact fin acc many q dV S gL FF O
   | true =>
     simp only [bh]
     have aJ := dh hb
     refine nq S.A.box hq 1 (by omega) fun ot e6 => ?_
     obtain ⟨kd, s, at', e, hm⟩ := rH X.L[q + 1]?
     have zW : kd = 0 ↔ X.L.length <= q + 1 := by
      cases ht : X.L[q + 1]? with
      | none =>
        rw [ht] at e; simp only [ow, List.cons.injEq, AV.int.injEq, true_and] at e
        rw [List.getElem?_eq_none_iff] at ht
        exact ⟨fun _ => ht, fun _ => e.1.symm⟩
      | some t =>
        rw [ht] at e; simp only [ow, mP, List.cons.injEq, AV.int.injEq, true_and] at e
        have := (dm.1 ht).1
        have hk := (X.ok t (fi ht)).cases
        constructor
        · intro h; omega
        · intro h; omega
     have Ur := Ep X.L[q + 1]?
     rw [RR] at Ur
     rw [e] at Ur ⊢
     simp only [bu, lV]
     intro b2 gK
     have e7 := e6.new (x := .box [AV.int .u8 0, AV.str [], AV.int .i64 0]) gK
     rw [show NV.at b2 .box = AV.box b2 0 from rfl, cA aL]
     refine ⟨⟨rfl, rfl, by simp⟩, ?_⟩
     have e8 := e7.set (x := .box (aA [AV.int .u8 0, AV.str [], AV.int .i64 0] 0 (ax (.agg [.int .u8 kd, .str s, .int .i64 at'])))) (e6.fresh gK.1)
     generalize ln : (ot.new b2 (.box [AV.int .u8 0, AV.str [], AV.int .i64 0])).set b2 (.box (aA [AV.int .u8 0, AV.str [], AV.int .i64 0] 0 (ax (.agg [.int .u8 kd, .str s, .int .i64 at'])))) = BF at e8 ⊢
     have nT : BF.box b2 = some [.int .u8 kd, .str s, .int .i64 at'] := by rw [<- ln, aS]; rfl
     replace S := S.gj (.pF S.A.box e8) hq (df _)
     simp only [aU, ai, ff nT, List.drop, bG, ck, aW, aI, aB]
     have stop : ¬ (q + 1 < X.L.length /\ Di X.L (q + 1) = false) -> jj v3 (.box k 0) BF := fun hn => by
      rw [if_neg (fun h => hn h.2)] at O
      exact fin acc many q BF S gL FF O
     by_cases h0 : kd = 0
     · simp only [h0, bS, show (true == false) = false from rfl, a8, az, if_true, ai, bh]
       exact stop (fun h => by have := zW.1 h0; omega)
     · simp only [h0, cm, dw, bp, B2 nT, DK, fT, az, bq, if_false, ai]
       refine ⟨by simp, _, Ur, ?_⟩
       cases hit : Di X.L (q + 1) with
       | true => simp only [bh]; exact stop (fun h => by rw [hit] at h; cases h.2)
       | false =>
         simp only [aV]
         have tB : q + 1 < X.L.length := by
          rcases eD (q + 1) X.L.length with h | h
          · exact h
          · exact absurd (zW.2 h) h0
         rw [if_pos ⟨hb, tB, hit⟩] at O
         refine Al S hb fun pI S => ?_
         have hF : gi X f' q := fun j hj hqj => ⟨B.first f' (by omega) j hj (by omega), (zR f').2.2.1 j hj (by omega)⟩
         have Uv : ∀ F1 a2, dY false [a2] F1 -> ∃ ks, dY true ks (acc ++ F1) /\ ks.length = many + 1 := fun F1 a2 h => by
          obtain ⟨ks, h1, h2⟩ := gL
          exact ⟨ks ++ [a2], h1.snoc h, by simp [h2]⟩
         obtain ⟨g1, g2⟩ := hF (q + 1) aJ (by omega)
         refine g1 r pI _ S.A.box ⟨fun F1 j2 e ov a2 uw fm A2 => ?_, fun j e ae A => O.bad j (by rw [e]; rfl) ae (S.A.trans A)⟩
         rw [e] at g2 O
         have hqj : q + 1 < j2 := g2.1
         obtain ⟨ks, M1, M2, M3⟩ := S.M
         have S2 := S.gj A2 ov (by omega)
         refine DY S2 (fun _ _ _ _ => ⟨ks, M1.gj A2 S.A.box, M2, by omega⟩) fm fun abb S3 => ?_
         refine ⟨_, ?_, acc ++ F1, many + 1, j2, f', rfl, rfl, rfl, rfl, by omega, by omega, by omega, S3, Uv F1 a2 fm, fun h => by omega, by omega, O⟩
         omega
end
theorem below : ∀ (X : Rx) (fu : Nat), Below X fu := fun X fu => by
 induction fu with
 | zero => constructor <;> intros <;> omega
 | succ fu B =>
   have st : ∀ {f' : Nat}, f' <= fu + 1 -> f' <= fu \/ f' = fu + 1 := fun h => by omega
   refine ⟨fun f' hf j hj he => ?_, fun f' hf j hj he => ?_, fun f' hf j lev hj h2 h9 he => ?_, fun f' hf j hj he => ?_, fun f' hf j hj he => ?_⟩
   · rcases st hf with h | rfl
     · exact B.term f' h j hj he
     · exact Sf B hj he
   · rcases st hf with h | rfl
     · exact B.first f' h j hj he
     · exact Nx hj (B.Is (by omega)) (B.oper fu (df _) j 2 hj (by omega) (by omega) (by omega))
   · rcases st hf with h | rfl
     · exact B.oper f' h j lev hj h2 h9 he
     · exact R2 hj h2 h9 he (fun h => B.atom fu (df _) j hj (by omega)) B.ops
   · rcases st hf with h | rfl
     · exact B.atom f' h j hj he
     · exact Ri B hj he
   · rcases st hf with h | rfl
     · exact B.arg f' h j hj he
     · exact TU B hj he
end Go.Rip
