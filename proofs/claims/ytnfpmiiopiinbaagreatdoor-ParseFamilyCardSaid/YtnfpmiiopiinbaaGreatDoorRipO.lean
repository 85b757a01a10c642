/- Lemmas for the proof: no conditions. -/
import Derived.Test.YtnfpmiiopiinbaaGreatDoorRipZz
import Derived.Test.YtnfpmiiopiinbaaGreatDoorRipN
set_option linter.unusedVariables false
set_option linter.unusedSimpArgs false
set_option linter.loopingSimpArgs false
namespace Go.Rip
open Go.Proofs Go.RowKit
section
variable {X : Rx} {i : Nat}
theorem Mz {U : St} {r : Nat} {w : bg} {K' : AV -> St -> Prop} {Kp : AV -> St -> Prop} (hr : U.box r = some (rd X i)) (hi : i <= X.L.length) (h : ∀ b ae, cC X.L i w = b -> eX r (rd X i) U ae -> K' (.bool b) ae) :
 (aM (some (9, 1)) (some [AV.str []]) 1 false [(0, .str w)]).wp K U (fun v U => af K 105 [.box r 0, v] U (ar K' Kp)) Kp := by
 rw [fI]
 refine ⟨by omega, ?_⟩
 rw [eR (o := 0) (s := 1) rfl]
 refine ⟨⟨rfl, rfl, by simp [bN]⟩, ?_⟩
 rw [gQ]
 refine ⟨rfl, ?_⟩
 refine GZ (l := [w]) hr hi (by simp) fun bT e1 => ?_
 exact h _ _ (by rw [wA]) (.px hr e1)
theorem Av {U : St} {r : Nat} {R : cB -> St -> Prop} {f : FuncId} {p : PR (List Nd)} (C : Ct X f i p) (hr : U.box r = some (rd X i)) (O : Out X r U R p) : af K f [.box r 0] U (ar (fun v U => aj R v U) (aa R)) :=
 C r U _ hr ⟨fun ns j e hj a ae hk A => aj.mk (O.ok ns j e hj a ae hk A), O.bad⟩
theorem Fc (hi : i <= X.L.length) : Ct X 278 i (yu X.L X.E i) := by
 intro r U R hr O
 refine Ms ?_
 unfold Mr
 refine gk hr hi fun k bT S => ?_
 simp only [di, ai, aV, cq]
 exact nJ S O fun x c8 S O => nK S fun eh S => eU S O
end
end Go.Rip
namespace Go.Rip
open Go.Proofs Go.RowKit
theorem GY {c : iW} (o : Option Tk) (l : List bg) (hn : l.length <= 100000) (hc : closed (.vec l.length c (l.map .str)) = true) : Pure K 121 [.agg (om o), .vec l.length c (l.map .str)] (.bool (rU o l)) := by
 refine Pure.of ?_ rfl (fun U => rfl) fun R hR => xQ o l hn fun ae _ => hR ae
 have : closed (.agg (om o)) = true := by cases o <;> rfl
 simp only [bG, this, hc, Bool.and_self]
section
variable {X : Rx} {aE U : St} {r k i : Nat} {kind : Int} {text : bg} {n m at_ : Int} {l : List Nd} {R : cB -> St -> Prop} {K' : AV -> St -> Prop} {Kp : AV -> St -> Prop} {w : bg} {f : FuncId}
def ga (X : Rx) (f i : Nat) : Prop := ∀ j, j <= X.L.length -> i < j -> Ct X 169 j (cz X.L X.E f j) /\ Gd X.L.length (j + 1) j (cz X.L X.E f j)
def zM (X : Rx) (f : Nat) (fin : List Nd -> Nat -> PR (List Nd)) : List bg -> List Nd -> Nat -> PR (List Nd)
 | [], acc, i => fin acc i
 | w :: ws, acc, i => (cE X.L w i).bind fun _ j => (cz X.L X.E f j).bind fun a j => zM X f fin ws (acc ++ a) j
theorem DX {fu i0 : Nat} (hF : ga X fu i0) {fin : List Nd -> Nat -> PR (List Nd)} (ws : List bg) (hw : ws.length <= 10) (AW : i0 <= i) (S : Sk X aE r k i kind text n m at_ l U) {ac : List Nd} (hac : ac = l) (O : Out X r aE R (zM X fu fin ws ac i))
 (h : ∀ acc j ae, Sk X aE r k j kind text n m at_ acc ae -> Out X r aE R (fin acc j) -> aj R (.box k 0) ae) :
 cG 5 [.box r 0, .box k 0, .vec ws.length .full (ws.map .str), .int .i64 ws.length, .int .i64 0] U fun lp v0 v3 eW oe v10 U =>
 (ak .lss (BT.mk false false false none false) false v10 oe).wp K U (fun v11 U =>
 al v11 (
  (aF (some (9, 1)) none eW v10).wp K U (fun v12 U =>
  (ao (some (false, 1)) v12 U).wp K U (fun bD U =>
  af K 102 [v0, bD] U (ar (fun cx U =>
  af K 169 [v0] U (ar (fun cw U =>
  (aM (some (87, 1)) (some [AV.a7]) 1 false [(0, cw)]).wp K U (fun v20 U =>
  af K 103 [v3, v20] U (ar (fun v21 U =>
  (ak .add (BT.mk false false false none false) true v10 (AV.int .i64 1)).wp K U (fun ck U =>
  lp v0 v3 eW oe ck U) (aa R)) (aa R))) (aa R)) (aa R))) (aa R))) (aa R)) (aa R)) (
  aj R v3 U)) (aa R) := by
 subst hac
 refine ⟨fun mm v0 v3 v8 v9 v10 ae => ∃ t acc j, t <= ws.length /\ mm = ws.length - t /\ v0 = .box r 0 /\ v3 = .box k 0 /\ v8 = .vec ws.length .full (ws.map .str) /\ v9 = .int .i64 ws.length /\ v10 = .int .i64 (t : Nat) /\ i0 <= j /\ Sk X aE r k j kind text n m at_ acc ae /\ Out X r aE R (zM X fu fin (ws.drop t) acc j),
  ⟨_, 0, _, _, by omega, rfl, rfl, rfl, rfl, rfl, rfl, AW, S, O⟩, ?_⟩
 rintro mm v0 v3 v8 v9 v10 bT ⟨t, acc, j, ht, rfl, rfl, rfl, rfl, rfl, rfl, fE, S, O⟩
 simp only [bj, ai, aW]
 refine ⟨fun aJ => ?_, fun gn => ?_⟩
 · have aJ : t < ws.length := by omega
   have hd : (ws.map AV.str).drop (t * 1) = .str ws[t] :: (ws.map AV.str).drop (t + 1) := by
    rw [Nat.mul_one, gp (by simpa using aJ)]; simp
   have uA : ws.drop t = ws[t] :: ws.drop (t + 1) := gp aJ
   rw [uA] at O
   simp only [AG, dC, hd, og, bB]
   refine ⟨by omega, ?_⟩
   unfold zM at O
   refine eE S O fun bR S O => ?_
   obtain ⟨g1, g2⟩ := hF _ S.hi (by omega)
   refine ku S g1 g2 O fun ns j2 c8 oh Ad S O => ?_
   simp only [cn]
   refine ⟨aX (by omega) (by omega), ws.length - (t + 1), by omega, t + 1, _, _, aJ, rfl, rfl, rfl, rfl, rfl, rfl, by omega, S, O⟩
 · have : t = ws.length := by omega
   subst this
   rw [List.drop_length] at O
   exact h _ _ _ S O
theorem HW {fu : Nat} (hi : i <= X.L.length) (hF : ga X fu i) : Ct X 158 i ((cE X.L yk i).bind fun _ j => (cz X.L X.E fu j).bind fun c j => (cE X.L s8 j).bind fun _ j => (cz X.L X.E fu j).bind fun a j => (cE X.L kL j).bind fun _ j => (cz X.L X.E fu j).bind fun b j => .ok (node 10 [] 0 0 (eP X.L X.E i) (c ++ a ++ b)) j) := by
 intro r U R hr O
 refine KZ ?_
 unfold KY
 refine gk hr hi fun k bT S => ?_
 rw [fI]
 refine ⟨by omega, ?_⟩
 rw [eR (o := 0) (s := 1) rfl]
 refine ⟨⟨rfl, rfl, by simp [bN]⟩, ?_⟩
 rw [eR (o := 1) (s := 1) rfl]
 refine ⟨⟨rfl, rfl, by simp [bN, aH]⟩, ?_⟩
 rw [eR (o := 2) (s := 1) rfl]
 refine ⟨⟨rfl, rfl, by simp [bN, aH]⟩, ?_⟩
 rw [gQ]
 refine ⟨rfl, ?_⟩
 simp only [oA, ai]
 exact DX (fin := fun acc j => .ok (node 10 [] 0 0 (eP X.L X.E i) acc) j) hF [yk, s8, kL] (by simp) (de _) S rfl O fun acc j ae S O => eU S O
theorem RI {fu : Nat} (hi : i <= X.L.length) (hF : ga X fu i) : Ct X 159 i ((cE X.L oL i).bind fun _ j => (cz X.L X.E fu j).bind fun a j => (cE X.L AE j).bind fun _ j => (cz X.L X.E fu j).bind fun b j => .ok (node 11 [] 0 0 (eP X.L X.E i) (a ++ b)) j) := by
 intro r U R hr O
 refine K3 ?_
 unfold K2
 refine gk hr hi fun k bT S => ?_
 rw [fI]
 refine ⟨by omega, ?_⟩
 rw [eR (o := 0) (s := 1) rfl]
 refine ⟨⟨rfl, rfl, by simp [bN]⟩, ?_⟩
 rw [eR (o := 1) (s := 1) rfl]
 refine ⟨⟨rfl, rfl, by simp [bN, aH]⟩, ?_⟩
 rw [gQ]
 refine ⟨rfl, ?_⟩
 simp only [oA, ai]
 exact DX (fin := fun acc j => .ok (node 11 [] 0 0 (eP X.L X.E i) acc) j) hF [oL, AE] (by simp) (de _) S rfl O fun acc j ae S O => eU S O
theorem jA {fu i0 : Nat} {q : List Nd -> Nat -> PR (List Nd)} (hF : ga X fu i0) (h0 : i0 < i) (S : Sk X aE r k i kind text n m at_ l U) (O : Out X r aE R ((cz X.L X.E fu i).bind q))
 (h : ∀ ns j ae, j <= X.L.length -> i < j -> Sk X aE r k j kind text n m at_ (l ++ ns) ae -> Out X r aE R (q ns j) -> K' (.box k 0) ae) :
 af K 169 [.box r 0] U (ar (fun v U => (aM (some (87, 1)) (some [AV.a7]) 1 false [(0, v)]).wp K U (fun v U => af K 103 [.box k 0, v] U (ar K' (aa R))) (aa R)) (aa R)) :=
 ku S (hF _ S.hi h0).1 (hF _ S.hi h0).2 O h
theorem Rl {fu : Nat} (hi : i <= X.L.length) (hF : ga X fu i) : Ct X 160 i ((cE X.L wP i).bind fun _ j => (iV X.L j).bind fun x j => (cE X.L wL j).bind fun _ j => (ki X.L j).bind fun n j => (cE X.L cP j).bind fun _ j => (ki X.L j).bind fun m j => (cE X.L qN j).bind fun _ j => (cz X.L X.E fu j).bind fun a j => .ok (node 12 x n m (eP X.L X.E i) a) j) := by
 intro r U R hr O
 refine K5 ?_
 unfold K4
 refine gk hr hi fun k bT S => ?_
 simp only [di, ai, aV, cq]
 refine eE S O fun _ S O => nJ S O fun x _ S O => nK S fun _ S => eE S O fun _ S O => o7 S O fun _ _ S O => Hz S fun _ S => eE S O fun _ S O => o7 S O fun _ _ S O => aaY S fun _ S => eE S O fun _ S O => ?_
 exact jA hF (by omega) S O fun ns j eh hj fE S O => eU S O
theorem NO {fu : Nat} (hi : i <= X.L.length) (hF : ga X fu i) : Ct X 161 i ((cE X.L pW i).bind fun _ j => (iV X.L j).bind fun x j => (cE X.L qN j).bind fun _ j => (cz X.L X.E fu j).bind fun a j => (cE X.L kL j).bind fun _ j => (cz X.L X.E fu j).bind fun b j => .ok (node 13 x 0 0 (eP X.L X.E i) (a ++ b)) j) := by
 intro r U R hr O
 refine K7 ?_
 unfold K6
 refine gk hr hi fun k bT S => ?_
 simp only [di, ai, aV, cq]
 refine eE S O fun _ S O => nJ S O fun x _ S O => nK S fun _ S => eE S O fun _ S O => ?_
 refine jA hF (by omega) S O fun ns j eh hj fE S O => eE S O fun _ S O => ?_
 exact jA hF (by omega) S O fun ns j eh hj fE S O => eU S O
theorem HX {fu : Nat} (hi : i <= X.L.length) (hF : ga X fu i) : Ct X 162 i ((cE X.L oJ i).bind fun _ j => (cz X.L X.E fu j).bind fun a j => (cE X.L kL j).bind fun _ j => (cz X.L X.E fu j).bind fun b j => .ok (node 15 [] 0 0 (eP X.L X.E i) (a ++ b)) j) := by
 intro r U R hr O
 refine K9 ?_
 unfold K8
 refine gk hr hi fun k bT S => ?_
 refine eE S O fun _ S O => ?_
 refine jA hF (by omega) S O fun ns j eh hj fE S O => eE S O fun _ S O => ?_
 exact jA hF (by omega) S O fun ns j eh hj fE S O => eU S O
theorem Ju {fu : Nat} (hi : i <= X.L.length) (hF : ga X fu i) : Ct X 163 i ((cE X.L oK i).bind fun _ j => (iV X.L j).bind fun x j => (cE X.L cP j).bind fun _ j => (ki X.L j).bind fun n j => (cE X.L qN j).bind fun _ j => (cz X.L X.E fu j).bind fun a j => .ok (node 14 x n 0 (eP X.L X.E i) a) j) := by
 intro r U R hr O
 refine Lb ?_
 unfold La
 refine gk hr hi fun k bT S => ?_
 simp only [di, ai, aV, cq]
 refine eE S O fun _ S O => nJ S O fun x _ S O => nK S fun _ S => eE S O fun _ S O => o7 S O fun _ _ S O => Hz S fun _ S => eE S O fun _ S O => ?_
 exact jA hF (by omega) S O fun ns j eh hj fE S O => eU S O
end
end Go.Rip
namespace Go.Rip
open Go.Proofs Go.RowKit
def hY : List (bg × Nat) := [(oJ, 162), (yk, 158), (pW, 161), (wP, 160), (oK, 163), (oL, 159)]
theorem Gz : sw = .eL (hY.map fun p => .str p.1) (hY.map fun p => .func (.func p.2) [] []) := rfl
theorem rj (s : bg) (z : AV) : ∀ l : List (bg × AV), kg .s (.str s) z true (l.map fun p => .str p.1) (l.map fun p => p.2) = .val (.aO [match l.find? (fun p => p.1 = s) with | some p => p.2 | none => z, .bool (l.find? (fun p => p.1 = s)).isSome])
 | [] => rfl
 | p :: l => by
   simp only [dx, kg, fz, List.find?_cons]
   by_cases h : s = p.1
   · subst h; simp
   · have h' : ¬ p.1 = s := fun e => h e.symm
     simp only [h', bZ]
     rw [show (s == p.1) = false by simp [h]]
     simpa using rj s z l
theorem Gx (s : bg) (U : St) : fx (some (.s, 186)) (some AV.cX) sw (.str s) true U = .val (.aO [match hY.find? (fun p => p.1 = s) with | some p => .func (.func p.2) [] [] | none => .cX, .bool (hY.find? (fun p => p.1 = s)).isSome]) := by
 rw [Gz]
 have := rj s .cX (hY.map fun p => (p.1, AV.func (.func p.2) [] []))
 simp only [fx, j6, nV]
 rw [List.map_map, List.map_map] at this
 rw [show (hY.map fun p => AV.str p.1) = List.map ((fun p : bg × AV => AV.str p.1) ∘ fun p => (p.1, AV.func (.func p.2) [] [])) hY from rfl, show (hY.map fun p => AV.func (.func p.2) [] []) = List.map ((fun p : bg × AV => p.2) ∘ fun p => (p.1, AV.func (.func p.2) [] [])) hY from rfl, this]
 congr 2
 rw [List.find?_map]
 have e : ((fun p : bg × AV => decide (p.1 = s)) ∘ fun p : bg × Nat => (p.1, AV.func (.func p.2) [] [])) = fun p => decide (p.1 = s) := rfl
 rw [e]
 cases hY.find? fun p => decide (p.1 = s) <;> rfl
theorem Ek (o : Option Tk) : Pure K 61 [.agg (om o)] (.bool (rU o [nr, uj, nq])) := by
 refine Pure.of ?_ rfl (fun U => rfl) fun R hR => ?_
 · cases o <;> rfl
 refine Oq ?_
 have ht : (om o).length = 3 := by cases o <;> rfl
 unfold Qs
 rw [dO rfl]
 intro b hb
 rw [show aA (.agg (om o)) = om o from rfl, rD aN]
 refine ⟨by simp [ht], ?_⟩
 rw [fI]
 refine ⟨by omega, ?_⟩
 rw [eR (o := 0) (s := 1) rfl]
 refine ⟨⟨rfl, rfl, by simp [bN]⟩, ?_⟩
 rw [eR (o := 1) (s := 1) rfl]
 refine ⟨⟨rfl, rfl, by simp [bN, aH]⟩, ?_⟩
 rw [eR (o := 2) (s := 1) rfl]
 refine ⟨⟨rfl, rfl, by simp [bN, aH]⟩, ?_⟩
 rw [gQ]
 refine ⟨rfl, ?_⟩
 rw [ej, qC (by omega)]
 exact xQ (c := .full) o [nr, uj, nq] (by simp) fun ae _ => aj.mk (hR ae)
theorem RQ (L : List Tk) (i : Nat) : rU L[i]? [nr, uj, nq] = Di L i := by
 unfold rU Di cC
 cases h : L[i]? with
 | none => rfl
 | some t =>
   simp only [h]
   cases hk : (t.k == 3 || t.k == 4) with
   | false => simp
   | true =>
     simp only [Bool.true_and]
     rw [lE]
     simp [or_assoc]
section
variable {X : Rx} {aE U : St} {r k i : Nat} {R : cB -> St -> Prop} {K' : AV -> St -> Prop} {Kp : AV -> St -> Prop} {f : FuncId}
theorem WK {gV : FuncId} (he : dz K.P gV = true) {c : List AV} : (fM K.P (.func (.func gV) [] []) [.box r 0]).wp K U K' Kp = af K gV [.box r 0] U (ar K' Kp) := by
 simp [fM, he]
def Co (X : Rx) (i lev : Nat) (p : PR (List Nd)) : Prop := ∀ (r : Nat) (U : St) (R : cB -> St -> Prop), U.box r = some (rd X i) -> Out X r U R p -> af K 219 [.box r 0, .int .i64 (lev : Nat)] U R
theorem Ru {s : bg} {p : bg × Nat} (h : hY.find? (fun p => p.1 = s) = some p) : p ∈ hY /\ p.1 = s := ⟨List.mem_of_find?_eq_some h, by simpa using List.find?_some h⟩
theorem Nl {fu : Nat} (hi : i <= X.L.length) (hF : ga X fu i) (hO : Co X i 2 (kj X.L X.E fu 2 i)) : Ct X 169 i (cz X.L X.E (fu + 1) i) := by
 intro r U R hr O
 refine Ll ?_
 unfold Lk
 refine nj hr hi 0 (by omega) fun bT e1 => ?_
 rw [Nat.add_zero]
 obtain ⟨kd, s, a, e, hm⟩ := rA X.L[i]?
 rw [e]
 simp only [bu, lP]
 intro b hb
 have C3 := e1.bL hr
 have e2 := e1.new (x := .box [AV.int .u8 0, AV.str [], AV.int .i64 0]) hb
 rw [show NV.at b .box = AV.box b 0 from rfl, dD aN]
 refine ⟨⟨rfl, rfl, by simp⟩, ?_⟩
 have e3 := e2.set (x := .box (aH [AV.int .u8 0, AV.str [], AV.int .i64 0] 0 (aA (.agg [.int .u8 kd, .str s, .int .i64 a])))) (e1.fresh hb.1)
 generalize lg : (bT.new b (.box [AV.int .u8 0, AV.str [], AV.int .i64 0])).set b (.box (aH [AV.int .u8 0, AV.str [], AV.int .i64 0] 0 (aA (.agg [.int .u8 kd, .str s, .int .i64 a])))) = c8 at e3 ⊢
 have gY : c8.box b = some [.int .u8 kd, .str s, .int .i64 a] := by rw [<- lg, bo]; rfl
 have xd := e3.bL hr
 have A3 : eX r (rd X i) U c8 := .px hr e3
 replace O := O.gm A3
 have eY : ∀ t, X.L[i]? = some t -> s = t.s /\ kd = t.k := fun t ht => by
  rw [ht] at e; simp only [om, mL, List.cons.injEq, AV.str.injEq, AV.int.injEq, true_and] at e; exact ⟨e.2.1.symm, e.1.symm⟩
 simp only [di, au, aV, lD xd, rd, List.drop, eQ, cq, lD gY, Gx, bK, aI, aB, jk]
 have Zb : ∀ w ∈ hY.map (·.1), cC X.L i w = true -> kd = 3 /\ s = w := fun w hw h => by
  have : ∀ w ∈ hY.map (·.1), w ∈ kf := by decide
  obtain ⟨t, ht, hk, hs⟩ := RA X.ok (this w hw) h
  obtain ⟨h1, h2⟩ := eY t ht
  exact ⟨by omega, h1.trans hs⟩
 have fin : (¬ (kd = 3 /\ s ∈ hY.map (·.1))) -> (∀ w ∈ hY.map (·.1), cC X.L i w = false) := fun h w hw => by
  cases hx : cC X.L i w with
  | false => rfl
  | true => obtain ⟨h1, h2⟩ := Zb w hw hx; exact absurd ⟨h1, h2 ▸ hw⟩ h
 by_cases hc : kd = 3 /\ s ∈ hY.map (·.1)
 · obtain ⟨h3, hs⟩ := hc
   obtain ⟨t, ht, hk, A7⟩ := (hm 3 (by omega)).1 h3
   subst h3
   have yY : cC X.L i s = true := RB ht (.inl hk) A7
   have cm : ∀ w ∈ hY.map (·.1), w ≠ s -> ¬ (cC X.L i w = true) := fun w hw hn h => hn (Zb w hw h).2.symm
   have key : ∃ gV, hY.find? (fun p => p.1 = s) = some (s, gV) /\ dz K.P gV = true /\ ∃ p, Ct X gV i p /\ cz X.L X.E (fu + 1) i = p := by
    have hnd : cE X.L s i = .ok () (i + 1) := by simp [cE, yY]
    have dL : s ∈ hY.map (·.1) := hs
    simp only [hY, dx, gJ, eA, List.not_mem_nil, or_false] at hs
    rcases hs with rfl | rfl | rfl | rfl | rfl | rfl
    · exact ⟨162, rfl, by kernel_rfl, _, HX hi hF, by rw [cz, if_neg (cm _ (by decide) (by decide)), if_neg (cm _ (by decide) (by decide)), if_neg (cm _ (by decide) (by decide)), if_neg (cm _ (by decide) (by decide)), if_pos yY, hnd]; rfl⟩
    · exact ⟨158, rfl, by kernel_rfl, _, HW hi hF, by rw [cz, if_pos yY, hnd]; rfl⟩
    · exact ⟨161, rfl, by kernel_rfl, _, NO hi hF, by rw [cz, if_neg (cm _ (by decide) (by decide)), if_neg (cm _ (by decide) (by decide)), if_neg (cm _ (by decide) (by decide)), if_pos yY, hnd]; rfl⟩
    · exact ⟨160, rfl, by kernel_rfl, _, Rl hi hF, by rw [cz, if_neg (cm _ (by decide) (by decide)), if_neg (cm _ (by decide) (by decide)), if_pos yY, hnd]; rfl⟩
    · exact ⟨163, rfl, by kernel_rfl, _, Ju hi hF, by rw [cz, if_neg (cm _ (by decide) (by decide)), if_neg (cm _ (by decide) (by decide)), if_neg (cm _ (by decide) (by decide)), if_neg (cm _ (by decide) (by decide)), if_neg (cm _ (by decide) (by decide)), if_pos yY, hnd]; rfl⟩
    · exact ⟨159, rfl, by kernel_rfl, _, RI hi hF, by rw [cz, if_neg (cm _ (by decide) (by decide)), if_pos yY, hnd]; rfl⟩
   obtain ⟨gV, h1, h2, p, h3, h4⟩ := key
   rw [h1]
   simp only [Option.isSome_some, du, bl, au, fQ, lD gY, List.drop, eQ, aR, bM, ay, if_true, ai, bf]
   rw [WK h2 (c := [])]
   rw [h4] at O
   exact Av h3 xd O
 · have hw := fin hc
   have hf : ∀ w ∈ hY.map (·.1), ¬ (cC X.L i w = true) := fun w h => by rw [hw w h]; simp
   rw [cz, if_neg (hf _ (by decide)), if_neg (hf _ (by decide)), if_neg (hf _ (by decide)), if_neg (hf _ (by decide)), if_neg (hf _ (by decide)), if_neg (hf _ (by decide))] at O
   have Z3 : ∀ (c : Option (bg × Nat)) (A B : Prop), hY.find? (fun p => p.1 = s) = c -> (c.isSome = true -> kd ≠ 3) := fun c A B h1 h2 h3 => by
    cases c with
    | none => cases h2
    | some p => exact hc ⟨h3, by obtain ⟨k1, k2⟩ := Ru h1; exact List.mem_map.2 ⟨p, k1, k2⟩⟩
   have sel : ∀ (V : AV) (A B : Prop), B -> al (.bool false) A B := fun _ _ _ hB => by rw [aU]; exact hB
   have rest : iU 2
    (fun v0 fq U =>
      al fq (
    af K 99 [v0, (AV.int .u8 16)] U (ar (fun fV U =>
    af K 101 [v0] U (ar (fun jE U =>
    (bz fV).wp K U (fun jY U =>
    (ah (some 0) jY).wp K U (fun eI U =>
    (ah (some 1) eI).wp K U (fun nL U =>
    (aQ (some (false, 1)) nL jE U).wp K U (fun _ U =>
    af K 102 [v0, (AV.str cP)] U (ar (fun v46 U =>
    af K 169 [v0] U (ar (fun v49 U =>
    (aM (some (87, 1)) (some [AV.a7]) 1 false [(0, v49)]).wp K U (fun mc U =>
    af K 103 [fV, mc] U (ar (fun v51 U =>
    aj R v51 U) (aa R))) (aa R)) (aa R))) (aa R))) (aa R)) (aa R)) (aa R)) (aa R)) (aa R))) (aa R))) (
    af K 219 [v0, (AV.int .i64 2)] U (ar (fun v53 U =>
    aj R v53 U) (aa R)))) (fun j =>
     av.wp K c8
      (fun ct U =>
        av.wp K U
         (fun v30 U =>
           ad K (aq v30 true) (av.val (AV.box r 0)) fun fG =>
            al (aq v30 true)
             (af K 167 [fG, AV.int IntKind.i64 1] U
               (ar
                 (fun dF U =>
                   ad K (aq v30 true)
                    (aM (some (9, 1)) (some [AV.str []]) 1 false [(0, AV.str cP)]) fun gi =>
                    ad K (aq v30 true) (av.enter 121 [dF, gi]) fun eD =>
                     av.wp K U (fun oV U => j (AV.box r 0) oV U) (aa R)
                      (aP v30 eD (AV.bool false)))
                 (aa R)))
             (ad K (aq v30 true)
               (aM (some (9, 1)) (some [AV.str []]) 1 false [(0, AV.str cP)]) fun HE =>
               ad K (aq v30 true) (av.enter 121 [AV.aO [], HE]) fun zA =>
                av.wp K U (fun oV U => j (AV.box r 0) oV U) (aa R)
                 (aP v30 zA (AV.bool false))))
         (aa R)
         (ak BinOp.eql { b := false, i := false, p := false, f := none, s := false } true ct (AV.int IntKind.u8 1)))
      (aa R) (ao (some (false, 1)) (AV.box b 0) c8)) := by
    intro j hj
    have yes : rQ X.L i 1 = true -> cC X.L (i + 1) cP = true -> ∀ dq, eX r (rd X i) c8 dq -> j (.box r 0) (.bool true) dq := fun g1 g2 dq A4 => by
     refine hj _ _ _ ?_
     rw [if_pos ⟨g1, g2⟩] at O
     replace O := O.gm A4
     rw [bf]
     refine gk A4.box hi fun k eh S => ?_
     simp only [di, ai, aV, cq]
     refine nJ S O fun x _ S O => nK S fun _ S => eE S O fun _ S O => ?_
     exact jA hF (by omega) S O fun ns j eh hj fE S O => eU S O
    have no : ¬ (rQ X.L i 1 = true /\ cC X.L (i + 1) cP = true) -> ∀ dq, eX r (rd X i) c8 dq -> j (.box r 0) (.bool false) dq := fun g dq A4 => by
     refine hj _ _ _ ?_
     rw [if_neg g] at O
     replace O := O.gm A4
     rw [aU]
     exact hO r dq _ A4.box ⟨fun ns j e hj a ae hk A => aj.mk (O.ok ns j e hj a ae hk A), O.bad⟩
    have nB : rQ X.L i 1 = decide (kd = 1) := by
     unfold rQ
     cases ht : X.L[i]? with
     | none => rw [ht] at e; simp only [om, List.cons.injEq, AV.int.injEq, true_and] at e; simp [<- e.1]
     | some t => obtain ⟨_, h2⟩ := eY t ht; rw [h2]; rw [lE]; simp; omega
    rw [fh gY]
    simp only [List.drop, bB, aR, ai, aI]
    by_cases h1 : kd = 1
    · simp only [h1, bM, du, aB, bl, au, fQ, bf]
      refine nj xd hi 1 (by omega) fun dq e4 => ?_
      simp only [bu]
      rw [x6]
      refine ⟨by omega, ?_⟩
      rw [vJ (o := 0) (s := 1) rfl]
      refine ⟨⟨rfl, rfl, by simp [bN]⟩, ?_⟩
      rw [Ap]
      refine ⟨rfl, _, GY (c := .full) (X.L[i + 1]?) [cP] (by simp) rfl, ?_⟩
      rw [wA]
      simp only [ay, if_true, ai]
      cases Zv : cC X.L (i + 1) cP with
      | true => exact yes (by rw [nB]; simp [h1]) Zv _ (.px xd e4)
      | false => exact no (by rw [Zv]; simp) _ (.px xd e4)
    · have CN : (decide (kd = 1) == true) = false := by simp [h1]
      simp only [CN, aB, a8, aU, h1, bZ, ay, bm, if_false, ai]
      simp only [beq_true, a8, aU]
      exact no (by rw [nB]; simp [h1]) _ ⟨xd, gU.refl _ _⟩
   cases qf : hY.find? (fun p => p.1 = s) with
   | none =>
     simp only [Option.isSome_none, a8, show (false == true) = false from rfl, ay, bm, if_false, ai, aU]
     exact rest
   | some p =>
     have h3 : ¬ kd = 3 := Z3 _ True True qf rfl
     simp only [Option.isSome_some, du, bl, au, fQ, lD gY, List.drop, eQ, aR, h3, bZ, ay, if_true, ai, aU]
     exact rest
end
end Go.Rip
namespace Go.Rip
open Go.Proofs Go.RowKit
def sN (lev : Nat) : List (bg × Int) :=
 if lev = 2 then [(Ed, 17)] else if lev = 3 then [(zH, 18)] else if lev = 5 then [(wM, 21), (wN, 20)] else if lev = 6 then [(wI, 22), (wK, 23)] else if lev = 7 then [(wH, 24)] else if lev = 8 then [(Eb, 25)] else []
def P8 (lev : Nat) : AV := .eL ((sN lev).map fun p => .str p.1) ((sN lev).map fun p => .int .u8 p.2)
theorem NY (lev : Nat) (h : lev = 2 \/ lev = 3 \/ lev = 5 \/ lev = 6 \/ lev = 7 \/ lev = 8) (U : St) : fx (some (.i, 185)) (some AV.jS) DE (.int .i64 (lev : Nat)) false U = .val (P8 lev) := by
 rcases h with rfl | rfl | rfl | rfl | rfl | rfl <;> rfl
theorem NZ (lev : Nat) (s : bg) (U : St) : fx (some (.s, 5)) (some (AV.int .u8 0)) (P8 lev) (.str s) true U = .val (.aO [.int .u8 (match (sN lev).find? (fun p => p.1 = s) with | some p => p.2 | none => 0), .bool ((sN lev).find? (fun p => p.1 = s)).isSome]) := by
 have := rj s (.int .u8 0) ((sN lev).map fun p => (p.1, AV.int .u8 p.2))
 rw [List.map_map, List.map_map, List.find?_map] at this
 simp only [fx, j6, nV, P8]
 rw [show ((sN lev).map fun p => AV.str p.1) = List.map ((fun p : bg × AV => AV.str p.1) ∘ fun p => (p.1, AV.int .u8 p.2)) (sN lev) from rfl, show ((sN lev).map fun p => AV.int .u8 p.2) = List.map ((fun p : bg × AV => p.2) ∘ fun p => (p.1, AV.int .u8 p.2)) (sN lev) from rfl, this]
 have e : ((fun p : bg × AV => decide (p.1 = s)) ∘ fun p : bg × Int => (p.1, AV.int .u8 p.2)) = fun p => decide (p.1 = s) := rfl
 rw [e]
 cases (sN lev).find? fun p => decide (p.1 = s) <;> rfl
theorem FU (L : List Tk) (lev i : Nat) : DC L lev i = ((sN lev).find? (fun p => p.1 = oG L[i]?)).map (·.2) := by
 have hw : ∀ w : bg, w ≠ [] -> cC L i w = decide (w = oG L[i]?) := fun w h => by rw [Bh h]; simp [eq_comm]
 unfold DC sN
 rw [hw Ed (by decide), hw zH (by decide), hw wN (by decide), hw wM (by decide), hw wI (by decide), hw wK (by decide), hw wH (by decide), hw Eb (by decide)]
 generalize oG L[i]? = s
 repeat' split
 all_goals simp_all
 all_goals (subst_vars; rfl)
section
variable {X : Rx} {aE U : St} {r k i : Nat} {kind : Int} {text : bg} {n m at_ : Int} {l : List Nd} {R : cB -> St -> Prop} {K' : AV -> St -> Prop} {Kp : AV -> St -> Prop}
theorem F4 (hr : U.box r = some (rd X i)) (hi : i <= X.L.length) (h : ∀ ae, cH U ae -> R (.ret (.str (oG X.L[i]?))) ae) : af K 253 [.box r 0] U R := by
 refine Mm ?_
 unfold Ml
 refine nj hr hi 0 (by omega) fun bT e1 => ?_
 rw [Nat.add_zero]
 have mS : ∃ kd s a, om X.L[i]? = [.int .u8 kd, .str s, .int .i64 a] /\ oG X.L[i]? = if kd = 3 \/ kd = 4 then s else [] := by
  cases ht : X.L[i]? with
  | none => exact ⟨0, [], 0, rfl, rfl⟩
  | some t =>
    refine ⟨t.k, t.s, t.at_, rfl, ?_⟩
    have e3 : ((t.k : Int) = 3) = (t.k = 3) := by simp; omega
    have e4 : ((t.k : Int) = 4) = (t.k = 4) := by simp; omega
    simp only [oG, e3, e4]
 obtain ⟨kd, s, a, e, hsg⟩ := mS
 rw [e]
 rw [hsg] at h
 simp only [bu, lP]
 intro b hb
 have e2 := e1.new (x := .box [AV.int .u8 0, AV.str [], AV.int .i64 0]) hb
 rw [show NV.at b .box = AV.box b 0 from rfl, dD aN]
 refine ⟨⟨rfl, rfl, by simp⟩, ?_⟩
 have e3 := e2.set (x := .box (aH [AV.int .u8 0, AV.str [], AV.int .i64 0] 0 (aA (.agg [.int .u8 kd, .str s, .int .i64 a])))) (e1.fresh hb.1)
 generalize lg : (bT.new b (.box [AV.int .u8 0, AV.str [], AV.int .i64 0])).set b (.box (aH [AV.int .u8 0, AV.str [], AV.int .i64 0] 0 (aA (.agg [.int .u8 kd, .str s, .int .i64 a])))) = c8 at e3 ⊢
 have gY : c8.box b = some [.int .u8 kd, .str s, .int .i64 a] := by rw [<- lg, bo]; rfl
 simp only [aV, ai, fh gY, List.drop, bB, cq, aR, aI, aB, jk, bl]
 by_cases h3 : kd = 3
 · subst h3
   simp [fh gY, bB]
   exact aj.mk (h _ e3)
 · by_cases h4 : kd = 4
   · subst h4
     simp [fh gY, lD gY, bB]
     exact aj.mk (h _ e3)
   · simp [fh gY, lD gY, bB, h3, h4]
     refine aj.mk ?_
     have := h _ e3
     rw [if_neg (by omega)] at this
     exact this
theorem My (S : Sk X aE r k i kind text n m at_ l U) (aJ : i < X.L.length) {bt : BT} {lit : Bool} (h : ∀ ae, Sk X aE r k (i + 1) kind text n m at_ l ae -> K' (.aO []) ae) :
 (ao (some (false, 1)) (.box r 1) U).wp K U (fun v U => (ak .add bt lit v (.int .i64 1)).wp K U (fun v U => (aQ (some (false, 1)) (.box r 1) v U).wp K U K' Kp) Kp) Kp := by
 have hs := X.small
 have hr := S.A.box
 simp only [fh hr, rd, List.drop, bB, cn]
 refine ⟨aX (by omega) (by omega), ?_⟩
 rw [dD hr]
 refine ⟨⟨rfl, rfl, by simp [rd]⟩, h _ (S.gm (j := i + 1) ⟨?_, (gU.refl r U).set (.inr rfl)⟩ aJ (by omega))⟩
 rw [bo]; simp [aH, rd]
theorem ek.ne_nil : ∀ {b : Bool} {ks : List AV} {l : List Nd}, ek b ks l -> b = true -> l = [] -> ks = [] := by
 have h1 : ∀ {b : Bool} {ks : List AV} {l : List Nd}, ek b ks l -> b = false -> l ≠ [] := fun h e => by
  cases h with
  | mk _ _ => simp [node]
  | nil => cases e
  | cons _ _ => cases e
 intro b ks l h e hl
 cases h with
 | mk _ _ => cases e
 | nil => rfl
 | cons a c => exact absurd (List.append_eq_nil_iff.1 hl).1 (h1 a rfl)
theorem ek.cS {a : AV} {ns : List Nd} (hk : ek false [a] ns) : a.cS = true /\ aA a = [a] := by
 generalize hb : false = b at hk
 generalize hl : [a] = la at hk
 cases hk with
 | mk _ _ => cases hl; exact ⟨rfl, rfl⟩
 | nil => cases hl
 | cons _ _ => cases hb
theorem DW {a : AV} {ns : List Nd} (S : Sk X aE r k i kind text n m at_ [] U) (hk : ek false [a] ns) (h : ∀ a' ae, ek false [a'] (node kind text n m at_ ns) -> eX r (rd X i) aE ae -> K' a' ae) :
 (aM (some (87, 1)) (some [AV.a7]) 1 false [(0, a)]).wp K U (fun v U => af K 103 [.box k 0, v] U (ar K' Kp)) Kp := by
 obtain ⟨ks, h1, h2, h3⟩ := S.M
 have := h2.ne_nil rfl rfl
 subst this
 rw [fI]
 refine ⟨by omega, ?_⟩
 rw [eR (o := 0) (s := 1) rfl]
 refine ⟨⟨hk.cS.1, by rw [hk.cS.2]; rfl, by simp [bN]⟩, ?_⟩
 rw [gQ, hk.cS.2]
 refine ⟨rfl, ?_⟩
 exact Ge (l2 := [a]) h1 S.A (by omega) rfl (by simp) fun ae M A => M.done (h2.snoc hk) A fun a' ae hk A => h a' ae hk A
theorem OV {a b : AV} {ns ms : List Nd} (S : Sk X aE r k i kind text n m at_ [] U) (hk : ek false [a] ns) (fp : ek false [b] ms) (h : ∀ a' ae, ek false [a'] (node kind text n m at_ (ns ++ ms)) -> eX r (rd X i) aE ae -> K' a' ae) :
 (aM (some (87, 1)) (some [AV.a7]) 2 false [(0, a), (1, b)]).wp K U (fun v U => af K 103 [.box k 0, v] U (ar K' Kp)) Kp := by
 obtain ⟨ks, h1, h2, h3⟩ := S.M
 have := h2.ne_nil rfl rfl
 subst this
 rw [fI]
 refine ⟨by omega, ?_⟩
 rw [eR (o := 0) (s := 1) rfl]
 refine ⟨⟨hk.cS.1, by rw [hk.cS.2]; rfl, by simp [bN]⟩, ?_⟩
 rw [hk.cS.2]
 rw [eR (o := 1) (s := 1) rfl]
 refine ⟨⟨fp.cS.1, by rw [fp.cS.2]; rfl, by simp [bN, aH]⟩, ?_⟩
 rw [gQ, fp.cS.2]
 refine ⟨rfl, ?_⟩
 exact Ge (l2 := [a, b]) h1 S.A (by omega) rfl (by simp) fun ae M A => M.done (by simpa using (h2.snoc hk).snoc fp) A fun a' ae hk A => h a' ae hk A
def Cd (X : Rx) (fu : Nat) : Prop := ∀ f', f' <= fu -> ∀ j lev, j <= X.L.length -> 2 <= lev -> lev <= 9 -> 40 * (X.L.length - j) + (11 - lev) <= f' -> Co X j lev (kj X.L X.E f' lev j) /\ Gd X.L.length (j + 1) j (kj X.L X.E f' lev j)
theorem R1 {fu lev : Nat} (hi : i <= X.L.length) (h2 : 2 <= lev) (h9 : lev <= 9) (hf : 40 * (X.L.length - i) + (11 - lev) <= fu + 1) (hA : lev = 9 -> Ct X 252 i (tf X.L X.E fu i)) (hS : Cd X fu) : Co X i lev (kj X.L X.E (fu + 1) lev i) := by
 intro r U R hr O
 refine LN ?_
 unfold LM
 have hs := X.small
 simp only [aR, ai, aW]
 refine ⟨fun e9 => ?_, fun n9 => ⟨fun e4 => ?_, fun n4 => ?_⟩⟩
 · have e9 : lev = 9 := by omega
   rw [kj, if_pos e9] at O
   exact Av (hA e9) hr O
 · have e4 : lev = 4 := by omega
   have n9 : ¬ lev = 9 := by omega
   rw [kj, if_neg n9, if_pos e4] at O
   refine gk hr hi fun k bT S => ?_
   refine zt S (fun hw bR S => ?_) fun hw bR S => ?_
   · rw [if_pos hw] at O
     simp only [bf]
     have aJ := df hw
     obtain ⟨g1, g2⟩ := hS fu (de _) (i + 1) 4 aJ (by omega) (by omega) (by omega)
     refine g1 r bR _ S.A.box ⟨fun ns j e hj a ae hk A => ?_, fun j e ae A => O.bad j (by rw [e]; rfl) ae (S.A.trans A)⟩
     rw [e] at g2 O
     have fE : i + 1 < j := g2.1
     refine DW (S.gm A hj (by omega)) hk fun a' ae Fv A' => ?_
     exact aj.mk (O.ok _ _ rfl hj a' ae Fv A')
   · rw [if_neg (by rw [hw]; simp)] at O
     simp only [aU, cn]
     refine ⟨aX (by omega) (by omega), ?_⟩
     obtain ⟨g1, g2⟩ := hS fu (de _) i 5 hi (by omega) (by omega) (by omega)
     subst e4
     refine g1 r bR _ S.A.box ?_
     replace O := O.gm S.A
     exact ⟨fun ns j e hj a ae hk A => aj.mk (O.ok ns j e hj a ae hk A), O.bad⟩
 · have n9 : ¬ lev = 9 := by omega
   have n4 : ¬ lev = 4 := by omega
   rw [kj, if_neg n9, if_neg n4] at O
   rw [cn]
   refine ⟨aX (by omega) (by omega), ?_⟩
   obtain ⟨g1, g2⟩ := hS fu (de _) i (lev + 1) hi (by omega) (by omega) (by omega)
   rw [show ((lev : Nat) : Int) + 1 = ((lev + 1 : Nat) : Int) by omega]
   refine g1 r U _ hr ⟨fun ns j e hj a bT hk A => ?_, fun j e ae A => O.bad j (by rw [e]; rfl) ae A⟩
   rw [e] at g2 O
   have fE : i < j := g2.1
   replace O : Out X r bT R (tN X.L X.E fu lev ns j) := Out.gm O A
   refine ⟨fun mm v0 v1 v6 ae => ∃ left j f', mm = X.L.length - j /\ v0 = .box r 0 /\ v1 = .int .i64 (lev : Nat) /\ j <= X.L.length /\ i < j /\ 40 * (X.L.length - j) + 1 <= f' /\ f' <= fu /\ ek false [v6] left /\ ae.box r = some (rd X j) /\ Out X r ae R (tN X.L X.E f' lev left j),
    ⟨_, ns, j, fu, rfl, rfl, rfl, hj, fE, by omega, de _, hk, A.box, O⟩, ?_⟩
   clear hk A O fE hj e g1 g2
   rintro mm v0 v1 v6 bR ⟨left, j, f', rfl, rfl, rfl, hj, fE, PE, UG, hk, qn, O⟩
   cases f' with
   | zero => omega
   | succ f' =>
     rw [tN, FU] at O
     simp only [di, au, aV, cq, lD qn, rd, List.drop, eQ, NY lev (by omega)]
     refine F4 qn hj fun c8 e3 => ?_
     simp only [bu]
     refine ⟨?_, ?_, ?_⟩
     · intro b hb
       simp only [cT, DE, jc, ja, ng, eA, List.not_mem_nil, or_false] at hb
       subst hb
       cases e : bR.live b with
       | none => exact absurd e (dR qn)
       | some x => exact e3 b x e
     · intro b hb
       simp [cT, P8] at hb
     simp only [NZ, au, bK, List.drop, eQ, cJ, ai]
     have A3 : eX r (rd X j) bR c8 := .px qn e3
     cases hop : (sN lev).find? fun p => p.1 = oG X.L[j]? with
     | none =>
       rw [hop] at O
       simp only [Option.isSome_none, cZ, bf]
       exact aj.mk (O.ok _ _ rfl hj _ c8 hk A3)
     | some p =>
       rw [hop] at O
       replace O := O.gm A3
       simp only [Option.isSome_some, bU, aU]
       have aJ : j < X.L.length := FV (lev := lev) (k := p.2) (by rw [FU, hop]; rfl)
       refine gk A3.box hj fun k dq S => ?_
       simp only [di, ai, aV, cq]
       refine My S aJ fun eh S => ?_
       simp only [aR, ai, aW]
       simp only [Option.map_some] at O
       refine ⟨fun e8 => ?_, fun n8 => ?_⟩
       · have e8 : lev = 8 := by omega
         rw [if_pos e8] at O
         refine o7 S O fun x pb S O => Hz S fun nM S => ?_
         have ik := S.hi
         refine DW S hk fun a' ae Fv A' => ?_
         exact ⟨_, by omega, _, j + 1 + 1, f', rfl, rfl, rfl, S.hi, by omega, by omega, by omega, Fv, A'.box, O.gm A'⟩
       · have n8 : ¬ lev = 8 := by omega
         rw [if_neg n8] at O
         simp only [cn]
         refine ⟨aX (by omega) (by omega), ?_⟩
         obtain ⟨g1, g2⟩ := hS f' (by omega) (j + 1) (lev + 1) aJ (by omega) (by omega) (by omega)
         rw [show ((lev : Nat) : Int) + 1 = ((lev + 1 : Nat) : Int) by omega]
         refine g1 r eh _ S.A.box ⟨fun ns j2 e oh b pb Y7 A => ?_, fun j e ae A => O.bad j (by rw [e]; rfl) ae (S.A.trans A)⟩
         rw [e] at g2 O
         have Ad : j + 1 < j2 := g2.1
         refine OV (S.gm A oh (by omega)) hk Y7 fun a' ae Fv A' => ?_
         replace O : Out X r c8 R (if lev = 5 then .ok (node p.2 [] 0 0 (eP X.L X.E j) (left ++ ns)) j2 else tN X.L X.E f' lev (node p.2 [] 0 0 (eP X.L X.E j) (left ++ ns)) j2) := O
         refine ⟨fun e5 => ?_, fun n5 => ?_⟩
         · rw [if_pos (by omega)] at O
           exact aj.mk (O.ok _ _ rfl oh a' ae Fv A')
         · rw [if_neg (by omega)] at O
           exact ⟨_, by omega, _, j2, f', rfl, rfl, rfl, oh, by omega, by omega, by omega, Fv, A'.box, O.gm A'⟩
end
end Go.Rip
namespace Go.Rip
open Go.Proofs Go.RowKit
theorem ek.size {a : AV} {l : List Nd} (h : ek false [a] l) : ∃ x r, l = x :: r /\ x.size = (l.length : Int) := by
 generalize hb : false = b at h
 generalize hl : [a] = la at h
 cases h with
 | mk _ _ => exact ⟨_, _, rfl, by simp [node]⟩
 | nil => cases hl
 | cons _ _ => cases hb
theorem ek.count : ∀ {ks ks' : List AV} {l : List Nd}, ek true ks l -> ek true ks' l -> ks.length = ks'.length
 | [], ks', l, h, h' => by
   have : l = [] := by
    generalize hb : true = b at h
    generalize hl : ([] : List AV) = la at h
    cases h with
    | mk _ _ => cases hb
    | nil => rfl
    | cons _ _ => cases hl
   rw [h'.ne_nil rfl this]
 | a :: ks, ks', l, h, h' => by
   generalize hb : true = b at h
   generalize hl : a :: ks = la at h
   cases h with
   | mk _ _ => cases hb
   | nil => cases hl
   | @cons a1 ks1 l1 l2 h1 h2 =>
     cases hl
     obtain ⟨x, r, e1, e2⟩ := h1.size
     generalize IB : l1 ++ l2 = ll at h'
     generalize dA : true = b' at h'
     cases h' with
     | mk _ _ => cases dA
     | nil => rw [e1] at IB; cases IB
     | @cons a3 ks3 l3 l4 h3 h4 =>
       obtain ⟨y, r', e3, e4⟩ := h3.size
       have xg : x = y := by rw [e1, e3] at IB; simpa using congrArg List.head? IB
       have hlen : l1.length = l3.length := by rw [xg] at e2; omega
       obtain ⟨_, h24⟩ := List.append_inj IB hlen
       subst h24
       simp [ek.count h2 h4]
section
variable {X : Rx} {aE U : St} {r k i : Nat} {kind : Int} {text : bg} {n m at_ : Int} {l : List Nd} {R : cB -> St -> Prop} {K' : AV -> St -> Prop} {Kp : AV -> St -> Prop} {w : bg}
theorem OW {q : Unit -> Nat -> PR (List Nd)} (hr : U.box r = some (rd X i)) (hi : i <= X.L.length) (O : Out X r U R ((cE X.L w i).bind q)) (h : ∀ ae, i + 1 <= X.L.length -> eX r (rd X (i + 1)) U ae -> Out X r ae R (q () (i + 1)) -> K' (.aO []) ae) : af K 102 [.box r 0, .str w] U (ar K' (aa R)) :=
 Aj hr hi w (fun e hl ae A => h ae hl A (by rw [e] at O; exact Out.gm O A)) fun e ae A => O.bad _ (by rw [e]; rfl) _ A
theorem Aw (S : Sk X aE r k i kind text n m at_ l U) (hb : cC X.L i w = true) (h : ∀ ae, Sk X aE r k (i + 1) kind text n m at_ l ae -> K' (.aO []) ae) : af K 102 [.box r 0, .str w] U (ar K' Kp) :=
 Aj S.A.box S.hi w (fun e hl ae A => h ae (S.gm A hl (by omega))) fun e ae A => by simp [cE, hb] at e
structure Below (X : Rx) (fu : Nat) : Prop where
 term : ∀ f', f' <= fu -> ∀ j, j <= X.L.length -> 40 * (X.L.length - j) + 11 <= f' -> Ct X 109 j (ug X.L X.E f' j)
 first : ∀ f', f' <= fu -> ∀ j, j <= X.L.length -> 40 * (X.L.length - j) + 10 <= f' -> Ct X 169 j (cz X.L X.E f' j)
 oper : ∀ f', f' <= fu -> ∀ j lev, j <= X.L.length -> 2 <= lev -> lev <= 9 -> 40 * (X.L.length - j) + (11 - lev) <= f' -> Co X j lev (kj X.L X.E f' lev j)
 atom : ∀ f', f' <= fu -> ∀ j, j <= X.L.length -> 40 * (X.L.length - j) + 1 <= f' -> Ct X 252 j (tf X.L X.E f' j)
 arg : ∀ f', f' <= fu -> ∀ j, j <= X.L.length -> 40 * (X.L.length - j) + 12 <= f' -> Ct X 269 j (ov X.L X.E f' j)
theorem Below.Ic {fu i : Nat} (B : Below X fu) (hf : 40 * (X.L.length - i) + 10 <= fu + 40) : ga X fu i := fun j hj fE =>
 ⟨B.first fu (de _) j hj (by omega), (z8 fu).2.2.1 j hj (by omega)⟩
theorem Below.ops {fu : Nat} (B : Below X fu) : Cd X fu := fun f' hf j lev hj h2 h9 he => ⟨B.oper f' hf j lev hj h2 h9 he, (z8 f').2.2.2.1 j lev hj h9 he⟩
theorem Rd {fu : Nat} (B : Below X fu) (he : 40 * (X.L.length - i) + 12 <= fu) {q : List Nd -> Nat -> PR (List Nd)} (S : Sk X aE r k i kind text n m at_ l U) (O : Out X r aE R ((ov X.L X.E fu i).bind fun a j => (pC X.L X.E fu a j).bind q))
 (h : ∀ ns j ae, j <= X.L.length -> i < j -> Sk X aE r k j kind text n m at_ (l ++ ns) ae -> Out X r aE R (q ns j) -> K' (.aO []) ae) : af K 106 [.box r 0, .box k 0, .func (.func 269) [.box r 0] []] U (ar K' (aa R)) := by
 refine BA ?_
 unfold DR
 have jC : dz K.P 269 = true := by kernel_rfl
 rw [B9 jC (c := [])]
 simp only [zj]
 have C : ∀ f', f' <= fu -> ∀ j, j <= X.L.length -> 40 * (X.L.length - j) + 12 <= f' -> Ct X 269 j (ov X.L X.E f' j) /\ Gd X.L.length (j + 1) j (ov X.L X.E f' j) := fun f' h1 j h2 h3 => ⟨B.arg f' h1 j h2 h3, (z8 f').2.2.2.2.2.2.2 j h2 h3⟩
 obtain ⟨c1, c2⟩ := C fu (de _) i S.hi he
 refine ku S c1 c2 O fun ns j bT hj fE S1 O1 => ?_
 refine ⟨fun mm v0 v1 v2 ae => ∃ acc j f', mm = X.L.length - j /\ v0 = .box r 0 /\ v1 = .box k 0 /\ v2 = .func (.func 269) [.box r 0] [] /\ j <= X.L.length /\ i < j /\ 40 * (X.L.length - j) + 1 <= f' /\ f' <= fu /\ Sk X aE r k j kind text n m at_ (l ++ acc) ae /\ Out X r aE R ((pC X.L X.E f' acc j).bind q),
  ⟨_, ns, j, fu, rfl, rfl, rfl, rfl, hj, fE, by omega, de _, S1, O1⟩, ?_⟩
 rintro mm v0 v1 v2 bR ⟨acc, j2, f', rfl, rfl, rfl, rfl, oh, Ad, UG, hf3, S2, O2⟩
 cases f' with
 | zero => omega
 | succ f' =>
   rw [pC] at O2
   refine zt S2 (fun hw c8 S3 => ?_) (fun hw c8 S3 => ?_)
   · simp only [bf]
     rw [if_pos hw] at O2
     have aJ := df hw
     rw [B9 jC (c := [])]
     have e2 : ((ov X.L X.E f' (j2 + 1)).bind fun b j => pC X.L X.E f' (acc ++ b) j).bind q = (ov X.L X.E f' (j2 + 1)).bind fun b j => (pC X.L X.E f' (acc ++ b) j).bind q := by
      cases ov X.L X.E f' (j2 + 1) <;> rfl
     rw [e2] at O2
     obtain ⟨c1, c2⟩ := C f' (by omega) _ aJ (by omega)
     refine ku S3 c1 c2 O2 fun VC j3 dq Fu aai S4 O4 => ?_
     exact ⟨_, by omega, acc ++ VC, j3, f', rfl, rfl, rfl, rfl, Fu, by omega, by omega, by omega, by rw [<- qD]; exact S4, O4⟩
   · simp only [aU]
     rw [if_neg (by rw [hw]; simp)] at O2
     exact aj.mk (h acc j2 c8 oh Ad S3 O2)
theorem TX {fu : Nat} (B : Below X fu) (hi : i <= X.L.length) (he : 40 * (X.L.length - i) + 12 <= fu + 1) : Ct X 269 i (ov X.L X.E (fu + 1) i) := by
 intro r U R hr O
 refine Mq ?_
 unfold Mp
 rw [ov] at O
 have hs := X.small
 have hF := B.Ic (i := i) (by omega)
 refine Mz hr hi fun b bT hb A1 => ?_
 replace O := O.gm A1
 cases b with
 | true =>
   simp only [bf]
   rw [if_pos hb] at O
   refine gk A1.box hi fun k bR S => ?_
   refine Aw S hb fun c8 S => eE S O fun c8 S O => ?_
   refine RH (by kernel_rfl) (fun i hi => Fc hi) (fun i hi => tg hi) (by omega) (by omega) S O fun ns j dq hj fE S O => ?_
   refine eE S O fun eh S O => ?_
   exact jA hF (by omega) S O fun ns j eh hj fE S O => eU S O
 | false =>
   simp only [aU]
   rw [if_neg (by rw [hb]; simp)] at O
   refine Mz A1.box hi fun b2 bR ij A2 => ?_
   replace O := O.gm A2
   cases b2 with
   | true =>
     simp only [bf]
     rw [if_pos ij] at O
     refine gk A2.box hi fun k bR S => ?_
     refine Aw S ij fun c8 S => eE S O fun c8 S O => ?_
     refine jA hF (by omega) S O fun ns j eh hj fE S O => eE S O fun _ S O => eE S O fun _ S O => ?_
     refine ku S (Fc S.hi) (tg S.hi) O fun ns j eh hj fE S O => eE S O fun _ S O => ?_
     exact jA hF (by omega) S O fun ns j eh hj fE S O => eE S O fun _ S O => eU S O
   | false =>
     simp only [aU]
     rw [if_neg (by rw [ij]; simp)] at O
     exact Av (B.term fu (de _) i hi (by omega)) A2.box O
end
end Go.Rip
namespace Go.Rip
open Go.Proofs Go.RowKit
theorem nF {U : St} {b : Nat} {ks vs : List AV} : (U.set b (.mp ks vs)).mp b = some (ks, vs) := by simp [St.mp, eM]
theorem Jq {U : St} {b : Nat} {ks vs : List AV} : (U.new b (.mp ks vs)).mp b = some (ks, vs) := by simp [St.mp, lA]
theorem Hd {U ae : St} {b : Nat} (h : ae.live b = U.live b) : ae.mp b = U.mp b := by simp [St.mp, h]
theorem cH.mp {U ae : St} {b : Nat} {x : List AV × List AV} (h : cH U ae) (k : U.mp b = some x) : ae.mp b = some x := by
 cases e : U.live b with
 | none => simp [St.mp, e] at k
 | some y => rw [Hd ((h b y e).trans e.symm)]; exact k
theorem s0 {C : cr} {U : St} {K' : AV -> St -> Prop} {Kp : AV -> St -> Prop} {m : Nat} {ks vs ks' vs' : List AV} {s : bg} {v : AV} {t : TypeId} (h : U.mp m = some (ks, vs)) (hf : jG .s (.str s) ks 0 = some none) (hi : fl (.str s) v ks vs = (ks', vs')) :
 (hZ (some (.s, t)) (.mp m) (.str s) v U).wp C U K' Kp = K' (.aO []) (U.set m (.mp ks' vs')) := by
 simp only [hZ, h, hf, nV, hi]; rfl
def oY : List (bg × Int) := [(oW, 32), (gl, 28), (kM, 30), (mP, 31), (jo, 29), (fR, 27)]
theorem Rf (s : bg) {U : St} {m : Nat} (h : U.mp m = some (oY.map fun p => .str p.1, oY.map fun p => .int .u8 p.2)) : fx (some (.s, 5)) (some (AV.int .u8 0)) (.mp m) (.str s) true U = .val (.aO [.int .u8 (match oY.find? (fun p => p.1 = s) with | some p => p.2 | none => 0), .bool (oY.find? (fun p => p.1 = s)).isSome]) := by
 have := rj s (.int .u8 0) (oY.map fun p => (p.1, AV.int .u8 p.2))
 rw [List.map_map, List.map_map, List.find?_map] at this
 simp only [fx, j6, nV, h]
 rw [show (oY.map fun p => AV.str p.1) = List.map ((fun p : bg × AV => AV.str p.1) ∘ fun p => (p.1, AV.int .u8 p.2)) oY from rfl, show (oY.map fun p => AV.int .u8 p.2) = List.map ((fun p : bg × AV => p.2) ∘ fun p => (p.1, AV.int .u8 p.2)) oY from rfl, this]
 have e : ((fun p : bg × AV => decide (p.1 = s)) ∘ fun p : bg × Int => (p.1, AV.int .u8 p.2)) = fun p => decide (p.1 = s) := rfl
 rw [e]
 cases oY.find? fun p => decide (p.1 = s) <;> rfl
section
variable {X : Rx} {aE U : St} {r k i : Nat} {kind : Int} {text : bg} {n m at_ : Int} {l : List Nd} {R : cB -> St -> Prop} {K' : AV -> St -> Prop} {Kp : AV -> St -> Prop} {w : bg}
theorem Rh {fu : Nat} (B : Below X fu) (hi : i <= X.L.length) (he : 40 * (X.L.length - i) + 1 <= fu + 1) : Ct X 252 i (tf X.L X.E (fu + 1) i) := by
 intro r U R hr O
 refine Mj ?_
 unfold Mi
 have hs := X.small
 rw [lP]
 intro mm Zf
 have e1 : cH U (U.new mm (.mp [] [])) := (cH.refl U).new Zf
 have hn := Zf.1
 rw [show NV.at mm .mp = AV.mp mm from rfl]
 generalize NI : U.new mm (.mp [] []) = bT at e1 ⊢
 have m1 : bT.mp mm = some ([], []) := by rw [<- NI]; exact Jq
 rw [s0 (ks' := [.str fR]) (vs' := [.int .u8 27]) m1 rfl rfl]
 rw [s0 (ks' := [.str gl, .str fR]) (vs' := [.int .u8 28, .int .u8 27]) nF rfl rfl]
 rw [s0 (ks' := [.str gl, .str jo, .str fR]) (vs' := [.int .u8 28, .int .u8 29, .int .u8 27]) nF rfl rfl]
 rw [s0 (ks' := [.str gl, .str kM, .str jo, .str fR]) (vs' := [.int .u8 28, .int .u8 30, .int .u8 29, .int .u8 27]) nF rfl rfl]
 rw [s0 (ks' := [.str gl, .str kM, .str mP, .str jo, .str fR]) (vs' := [.int .u8 28, .int .u8 30, .int .u8 31, .int .u8 29, .int .u8 27]) nF rfl rfl]
 rw [s0 (ks' := [.str oW, .str gl, .str kM, .str mP, .str jo, .str fR]) (vs' := [.int .u8 32, .int .u8 28, .int .u8 30, .int .u8 31, .int .u8 29, .int .u8 27]) nF rfl rfl]
 have e2 := (((((e1.set (x := .mp [.str fR] [.int .u8 27]) hn).set (x := .mp [.str gl, .str fR] [.int .u8 28, .int .u8 27]) hn).set (x := .mp [.str gl, .str jo, .str fR] [.int .u8 28, .int .u8 29, .int .u8 27]) hn).set (x := .mp [.str gl, .str kM, .str jo, .str fR] [.int .u8 28, .int .u8 30, .int .u8 29, .int .u8 27]) hn).set (x := .mp [.str gl, .str kM, .str mP, .str jo, .str fR] [.int .u8 28, .int .u8 30, .int .u8 31, .int .u8 29, .int .u8 27]) hn).set (x := .mp [.str oW, .str gl, .str kM, .str mP, .str jo, .str fR] [.int .u8 32, .int .u8 28, .int .u8 30, .int .u8 31, .int .u8 29, .int .u8 27]) hn
 generalize NJ : ((((((bT.set mm (.mp [.str fR] [.int .u8 27])).set mm _).set mm _).set mm _).set mm _).set mm _) = bR at e2 ⊢
 have m2 : bR.mp mm = some (oY.map fun p => .str p.1, oY.map fun p => .int .u8 p.2) := by rw [<- NJ]; exact nF
 have qn := e2.bL hr
 refine F4 qn hi fun c8 e3 => ?_
 simp only [bu, Rf _ (e3.mp m2), ai, bK, List.drop, bB]
 have A3 : eX r (rd X i) U c8 := .px hr (e2.trans e3)
 replace O := O.gm A3
 have hw : ∀ w : bg, w ≠ [] -> cC X.L i w = decide (w = oG X.L[i]?) := fun w h => by rw [Bh h]; simp [eq_comm]
 rw [tf, hw fR (by decide), hw gl (by decide), hw jo (by decide), hw kM (by decide), hw mP (by decide), hw oW (by decide)] at O
 simp only [cL] at O
 cases Fs : oY.find? fun p => p.1 = oG X.L[i]? with
 | some p =>
   simp only [Option.isSome_some, bf]
   have hp : p ∈ oY := List.mem_of_find?_eq_some Fs
   have PU : p.1 = oG X.L[i]? := by simpa using List.find?_some Fs
   have cm : p.1 ≠ [] := by
    have : ∀ p ∈ oY, p.1 ≠ [] := by decide
    exact this p hp
   have aJ : i < X.L.length := df (w := p.1) (by rw [hw _ cm, PU]; simp)
   refine gk A3.box hi fun k dq S => ?_
   simp only [di, ai, aV, cq]
   refine My S aJ fun eh S => ?_
   intro j hj
   simp only [aR, ai, aI, aB, jk, bl]
   rw [<- PU] at O
   simp only [oY, eA, List.not_mem_nil, or_false] at hp
   have t1 : (oW = fR) = False := by simp; decide
   rcases hp with rfl | rfl | rfl | rfl | rfl | rfl
   · simp (decide := true) only [if_false, if_true] at O
     simp (decide := true) [bf]
     exact nJ S O fun x _ S O => nK S fun _ S => hj _ _ (eU S O)
   · simp (decide := true) only [if_false, if_true] at O
     simp (decide := true) [aU]
     exact hj _ _ (eU S O)
   · simp (decide := true) only [if_false, if_true] at O
     simp (decide := true) [aU]
     exact hj _ _ (eU S O)
   · simp (decide := true) only [if_false, if_true] at O
     simp (decide := true) [bf]
     exact nJ S O fun x _ S O => nK S fun _ S => hj _ _ (eU S O)
   · simp (decide := true) only [if_false, if_true] at O
     simp (decide := true) [aU]
     exact hj _ _ (eU S O)
   · simp (decide := true) only [if_false, if_true] at O
     simp (decide := true) [aU]
     exact hj _ _ (eU S O)
 | none =>
   simp only [Option.isSome_none, aU]
   have fF : ∀ w ∈ oY.map (·.1), ¬ w = oG X.L[i]? := fun w hw e => by
    rw [List.find?_eq_none] at Fs
    obtain ⟨p, hp, rfl⟩ := List.mem_map.1 hw
    simpa [e] using Fs p hp
   rw [if_neg (fF _ (by decide)), if_neg (fF _ (by decide)), if_neg (fF _ (by decide)), if_neg (fF _ (by decide)), if_neg (fF _ (by decide)), if_neg (fF _ (by decide))] at O
   refine Dt A3.box hi oX (fun hb dq A4 => ?_) (fun hb dq e4 => ?_)
   · simp only [bu, bf]
     rw [if_pos hb] at O
     have aJ := df hb
     replace O := O.gm A4
     have g2 := (z8 (L := X.L) (E := X.E) fu).1 (i + 1) aJ (by omega)
     refine B.term fu (de _) (i + 1) aJ (by omega) r dq _ A4.box ⟨fun ns j e hj a ae hk A => ?_, fun j e ae A => O.bad j (by rw [e]; rfl) ae A⟩
     rw [e] at O
     refine OW A.box hj (Out.gm O A) fun eh hj5 A5 O => ?_
     exact aj.mk (O.ok _ _ rfl hj5 a eh hk ⟨A5.box, gU.refl _ _⟩)
   · simp only [bu, aU]
     rw [if_neg (by rw [hb]; simp)] at O
     have A4 : eX r (rd X i) c8 dq := .px A3.box e4
     replace O := O.gm A4
     refine nj A4.box hi 0 (by omega) fun eh e5 => ?_
     rw [Nat.add_zero]
     have A5 : eX r (rd X i) dq eh := .px A4.box e5
     replace O := O.gm A5
     obtain ⟨kd, s, a, e, hm⟩ := rA X.L[i]?
     rw [e]
     simp only [bu, Gw, List.drop, bB, aR, ai, aW]
     have fp : rQ X.L i 2 = true ↔ kd = 2 := by
      refine Iff.trans ?_ (hm 2 (by omega)).symm
      unfold rQ
      cases ht : X.L[i]? with
      | none => simp
      | some t =>
        rw [ht] at e; simp only [om, mL, List.cons.injEq, AV.str.injEq, true_and] at e
        simp [e.2.1]
     refine ⟨fun h2 => ?_, fun h2 => ?_⟩
     · rw [if_pos (fp.2 h2)] at O
       refine gk A5.box hi fun k pb S => ?_
       simp only [di, ai, aV, cq]
       exact o7 S O fun x _ S O => Hz S fun _ S => eU S O
     · rw [if_neg (fun h => h2 (fp.1 h))] at O
       refine gk A5.box hi fun k pb S => ?_
       simp only [di, ai, aV, cq]
       refine nJ S O fun x _ S O => nK S fun _ S => ?_
       intro j hj
       refine zt S (fun hw nM S => ?_) fun hw nM S => ?_
       · simp only [bf]
         rw [if_pos hw] at O
         have hh := S.hi
         refine Sc S fun _ S => Rd B (by omega) S O fun ns j2 BF oh Ad S O => ?_
         exact eE S O fun _ S O => hj _ _ (eU S O)
       · simp only [aU]
         rw [if_neg (by rw [hw]; simp)] at O
         exact hj _ _ (eU S O)
end
end Go.Rip
namespace Go.Rip
open Go.Proofs Go.RowKit
section
variable {X : Rx} {aE U : St} {r k i : Nat} {kind : Int} {text : bg} {n m at_ : Int} {l : List Nd} {R : cB -> St -> Prop} {K' : AV -> St -> Prop} {Kp : AV -> St -> Prop} {w : bg}
theorem Sb {a : AV} {ns : List Nd} (S : Sk X aE r k i kind text n m at_ [] U) (hi : 1 <= i) (hk : ek false [a] ns) (h : ∀ ae, Sk X aE r k i kind text n m at_ ns ae -> K' (.box k 0) ae) :
 (aM (some (87, 1)) (some [AV.a7]) 1 false [(0, a)]).wp K U (fun v U => af K 103 [.box k 0, v] U (ar K' (aa R))) (aa R) :=
 DV S (fun ks h1 h2 h3 => ⟨ks, h1, h2, by rw [h2.ne_nil rfl rfl]; simpa using hi⟩) hk fun ae S => h ae (by simpa using S)
theorem Nu {U : St} {v : AV} {e sz n : Nat} {l : List AV} (h : Grow U v e sz n l) : bw (some false) v = .val (.int .i64 n) := by
 rcases h with ⟨rfl, rfl, rfl⟩ | ⟨τ, rfl, _⟩ <;> rfl
theorem Sf {fu : Nat} (B : Below X fu) (hi : i <= X.L.length) (he : 40 * (X.L.length - i) + 11 <= fu + 1) : Ct X 109 i (ug X.L X.E (fu + 1) i) := by
 intro r U R hr O
 refine J2 ?_
 unfold J1
 have hs := X.small
 rw [ug] at O
 have g := (z8 (L := X.L) (E := X.E) fu).2.2.1 i hi (by omega)
 refine B.first fu (de _) i hi (by omega) r U _ hr ⟨fun ns j e hj a bT hk A1 => ?_, fun j e ae A => O.bad j (by rw [e]; rfl) ae A⟩
 rw [e] at O g
 have fE : i < j := g.1
 have O1 : Out X r bT R (ye X.L X.E fu (eP X.L X.E j) ns 1 j) := Out.gm O A1
 clear O e g
 refine gk A1.box hj fun k bR S => ?_
 refine Sb S (by omega) hk fun c8 S => ?_
 intro jj w9
 have fin : ∀ (acc : List Nd) (many q : Nat) (ae : St), Sk X bT r k q 9 [] 0 0 (eP X.L X.E j) acc ae -> (∃ ks, ek true ks acc /\ ks.length = many) -> (many = 1 -> acc = ns) -> Out X r bT R (.ok (if many = 1 then acc else node 9 [] 0 0 (eP X.L X.E j) acc) q) -> jj a (.box k 0) ae := by
  intro acc many q ae S ⟨ZC, UN, nS⟩ h1 O
  refine w9 _ _ _ ?_
  have PV := S.hi
  have hA' := S.A
  obtain ⟨ks, M, Za, hle⟩ := S.M
  have hl : ks.length = many := (Za.count UN).trans nS
  obtain ⟨kv, b1, b2, b3, b4⟩ := M.box
  simp only [di, ai, aV, cq, fh b1, q9, List.drop, bB, Nu b2, aR, aW, hl]
  refine ⟨fun h => ?_, fun h => ?_⟩
  · have h : many = 1 := by omega
    rw [if_pos h] at O
    have := h1 h
    subst this
    exact aj.mk (O.ok _ _ rfl PV a ae hk hA')
  · rw [if_neg (by omega)] at O
    exact eU S O
 refine ⟨fun mm v0 v3 v4 ae => ∃ acc many q f', mm = X.L.length - q /\ v0 = .box r 0 /\ v3 = a /\ v4 = .box k 0 /\ i < q /\ 40 * (X.L.length - q) + 1 <= f' /\ f' <= fu /\ Sk X bT r k q 9 [] 0 0 (eP X.L X.E j) acc ae /\ (∃ ks, ek true ks acc /\ ks.length = many) /\ (many = 1 -> acc = ns) /\ 1 <= many /\ Out X r bT R (ye X.L X.E f' (eP X.L X.E j) acc many q),
  ⟨_, ns, 1, j, fu, rfl, rfl, rfl, rfl, fE, by omega, de _, S, ⟨[a], hk.one, rfl⟩, fun _ => rfl, de _, O1⟩, ?_⟩
 clear O1 S fE
 rintro mm v0 v3 v4 dq ⟨acc, many, q, f', rfl, rfl, rfl, rfl, hiq, PE, UG, S, gM, Fy, PL, O⟩
 cases f' with
 | zero => omega
 | succ f' =>
   rw [ye] at O
   have hq := S.hi
   refine Wf S fun b eh hb S => ?_
   cases b with
   | false =>
     simp only [aU]
     rw [if_neg (by rw [hb]; simp)] at O
     exact fin acc many q eh S gM Fy O
   | true =>
     simp only [bf]
     have aJ := df hb
     refine nj S.A.box hq 1 (by omega) fun pb e6 => ?_
     obtain ⟨kd, s, at', e, hm⟩ := rA X.L[q + 1]?
     have Ae : kd = 0 ↔ X.L.length <= q + 1 := by
      cases ht : X.L[q + 1]? with
      | none =>
        rw [ht] at e; simp only [om, List.cons.injEq, AV.int.injEq, true_and] at e
        rw [List.getElem?_eq_none_iff] at ht
        exact ⟨fun _ => ht, fun _ => e.1.symm⟩
      | some t =>
        rw [ht] at e; simp only [om, mL, List.cons.injEq, AV.int.injEq, true_and] at e
        have := (dy.1 ht).1
        have hk := (X.ok t (fB ht)).cases
        constructor
        · intro h; omega
        · intro h; omega
     have Uu := Ek X.L[q + 1]?
     rw [RQ] at Uu
     rw [e] at Uu ⊢
     simp only [bu, lP]
     intro b2 ij
     have e7 := e6.new (x := .box [AV.int .u8 0, AV.str [], AV.int .i64 0]) ij
     rw [show NV.at b2 .box = AV.box b2 0 from rfl, dD aN]
     refine ⟨⟨rfl, rfl, by simp⟩, ?_⟩
     have e8 := e7.set (x := .box (aH [AV.int .u8 0, AV.str [], AV.int .i64 0] 0 (aA (.agg [.int .u8 kd, .str s, .int .i64 at'])))) (e6.fresh ij.1)
     generalize lg : (pb.new b2 (.box [AV.int .u8 0, AV.str [], AV.int .i64 0])).set b2 (.box (aH [AV.int .u8 0, AV.str [], AV.int .i64 0] 0 (aA (.agg [.int .u8 kd, .str s, .int .i64 at'])))) = BF at e8 ⊢
     have pt : BF.box b2 = some [.int .u8 kd, .str s, .int .i64 at'] := by rw [<- lg, bo]; rfl
     replace S := S.gm (.px S.A.box e8) hq (de _)
     simp only [aV, ai, fh pt, List.drop, bB, cq, aR, aI, aB]
     have stop : ¬ (q + 1 < X.L.length /\ Di X.L (q + 1) = false) -> jj v3 (.box k 0) BF := fun hn => by
      rw [if_neg (fun h => hn h.2)] at O
      exact fin acc many q BF S gM Fy O
     by_cases h0 : kd = 0
     · simp only [h0, bM, show (true == false) = false from rfl, a8, ay, if_true, ai, bf]
       exact stop (fun h => by have := Ae.1 h0; omega)
     · simp only [h0, bZ, du, bl, Qa pt, DH, fQ, ay, bm, if_false, ai]
       refine ⟨by simp, _, Uu, ?_⟩
       cases hit : Di X.L (q + 1) with
       | true => simp only [bf]; exact stop (fun h => by rw [hit] at h; cases h.2)
       | false =>
         simp only [aU]
         have tt : q + 1 < X.L.length := by
          rcases eG (q + 1) X.L.length with h | h
          · exact h
          · exact absurd (Ae.2 h) h0
         rw [if_pos ⟨hb, tt, hit⟩] at O
         refine Aw S hb fun pA S => ?_
         have hF : ga X f' q := fun j hj hqj => ⟨B.first f' (by omega) j hj (by omega), (z8 f').2.2.1 j hj (by omega)⟩
         have Uy : ∀ FO a2, ek false [a2] FO -> ∃ ks, ek true ks (acc ++ FO) /\ ks.length = many + 1 := fun FO a2 h => by
          obtain ⟨ks, h1, h2⟩ := gM
          exact ⟨ks ++ [a2], h1.snoc h, by simp [h2]⟩
         obtain ⟨g1, g2⟩ := hF (q + 1) aJ (by omega)
         refine g1 r pA _ S.A.box ⟨fun FO j2 e oh a2 uq fp A2 => ?_, fun j e ae A => O.bad j (by rw [e]; rfl) ae (S.A.trans A)⟩
         rw [e] at g2 O
         have hqj : q + 1 < j2 := g2.1
         obtain ⟨ks, M1, M2, M3⟩ := S.M
         have S2 := S.gm A2 oh (by omega)
         refine DV S2 (fun _ _ _ _ => ⟨ks, M1.gm A2 S.A.box, M2, by omega⟩) fp fun abg S3 => ?_
         refine ⟨_, ?_, acc ++ FO, many + 1, j2, f', rfl, rfl, rfl, rfl, by omega, by omega, by omega, S3, Uy FO a2 fp, fun h => by omega, by omega, O⟩
         omega
end
theorem below : ∀ (X : Rx) (fu : Nat), Below X fu := fun X fu => by
 induction fu with
 | zero => constructor <;> intros <;> omega
 | succ fu B =>
   have st : ∀ {f' : Nat}, f' <= fu + 1 -> f' <= fu \/ f' = fu + 1 := fun h => by omega
   refine ⟨fun f' hf j hj he => ?_, fun f' hf j hj he => ?_, fun f' hf j lev hj h2 h9 he => ?_, fun f' hf j hj he => ?_, fun f' hf j hj he => ?_⟩
   · rcases st hf with h | rfl
     · exact B.term f' h j hj he
     · exact Sf B hj he
   · rcases st hf with h | rfl
     · exact B.first f' h j hj he
     · exact Nl hj (B.Ic (by omega)) (B.oper fu (de _) j 2 hj (by omega) (by omega) (by omega))
   · rcases st hf with h | rfl
     · exact B.oper f' h j lev hj h2 h9 he
     · exact R1 hj h2 h9 he (fun h => B.atom fu (de _) j hj (by omega)) B.ops
   · rcases st hf with h | rfl
     · exact B.atom f' h j hj he
     · exact Rh B hj he
   · rcases st hf with h | rfl
     · exact B.arg f' h j hj he
     · exact TX B hj he
end Go.Rip
