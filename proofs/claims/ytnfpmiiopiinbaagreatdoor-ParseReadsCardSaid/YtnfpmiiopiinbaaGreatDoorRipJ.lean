/- Lemmas for the proof: no conditions. -/
import Derived.Test.YtnfpmiiopiinbaaGreatDoorRipZz
import Derived.Test.YtnfpmiiopiinbaaGreatDoorRipI
set_option linter.unusedVariables false
set_option linter.unusedSimpArgs false
set_option linter.loopingSimpArgs false
namespace Go.Rip
theorem PR.ax {α β : Type} {x : PR α} {f : α -> Nat -> PR β} {b : β} {j : Nat} (h : x.bind f = .ok b j) : ∃ a i, x = .ok a i /\ f a i = .ok b j := by
 cases x with
 | ok a i => exact ⟨a, i, rfl, h⟩
 | bad i => cases h
 | out => cases h
theorem PR.bF {α : Type} {a b : α} {i j : Nat} (h : PR.ok a i = PR.ok b j) : a = b /\ i = j := by cases h; exact ⟨rfl, rfl⟩
theorem cU {L : List Tk} {w : aZ} {i j : Nat} {u : Unit} (h : bm L w i = .ok u j) : j = i + 1 := by
 unfold bm at h; split at h <;> cases h; rfl
theorem jA {L : List Tk} {i j : Nat} {u : aZ} (h : dM L i = .ok u j) : j = i + 1 := by
 unfold dM at h; split at h
 · split at h <;> cases h; rfl
 · cases h
theorem nO {L : List Tk} {i j : Nat} {u : Int} (h : fQ L i = .ok u j) : j = i + 1 := by
 unfold fQ at h; split at h
 · split at h <;> cases h; rfl
 · cases h
theorem bT (k : Int) (t : aZ) (n m a : Int) (l : List Nd) : (node k t n m a l).length = l.length + 1 := rfl
section
variable {L : List Tk} {E : Nat}
theorem ry {i j : Nat} {ns : List Nd} (h : fJ L E i = .ok ns j) : ns.length + i <= j := by
 unfold fJ at h
 split at h
 · obtain ⟨rfl, rfl⟩ := PR.bF h; simp [bT]; omega
 · split at h
   · obtain ⟨rfl, rfl⟩ := PR.bF h; simp [bT]; omega
   · split at h
     · obtain ⟨_, _, h1, h⟩ := PR.ax h
       have := nO h1
       obtain ⟨rfl, rfl⟩ := PR.bF h; simp [bT]; omega
     · obtain ⟨_, _, h1, h⟩ := PR.ax h
       obtain ⟨_, _, h2, h⟩ := PR.ax h
       have := cU h1; have := nO h2
       obtain ⟨rfl, rfl⟩ := PR.bF h; simp [bT]; omega
theorem xw {i j : Nat} {ns : List Nd} (h : jK L E i = .ok ns j) : ns.length + i <= j := by
 unfold jK at h
 obtain ⟨_, _, h1, h⟩ := PR.ax h
 have := jA h1
 obtain ⟨rfl, rfl⟩ := PR.bF h; simp [bT]; omega
theorem DU {one : Nat -> PR (List Nd)} (h1 : ∀ {i j ns}, one i = .ok ns j -> ns.length + i <= j) : ∀ (f : Nat) (acc : List Nd) (i : Nat) {j : Nat} {ns : List Nd}, js L one f acc i = .ok ns j -> ns.length + i <= j + acc.length
 | 0, _, _, _, _, h => by cases h
 | f + 1, acc, i, j, ns, h => by
   unfold js at h
   split at h
   · obtain ⟨_, _, h2, h⟩ := PR.ax h
     have := h1 h2
     have := DU h1 f _ _ h
     simp at this; omega
   · obtain ⟨rfl, rfl⟩ := PR.bF h; omega
theorem x7 {one : Nat -> PR (List Nd)} (h1 : ∀ {i j ns}, one i = .ok ns j -> ns.length + i <= j) {f i j : Nat} {ns : List Nd} (h : jr L one f i = .ok ns j) : ns.length + i <= j := by
 unfold jr at h
 obtain ⟨_, _, h2, h⟩ := PR.ax h
 have := h1 h2
 have := DU h1 f _ _ h
 omega
theorem x6 {f i j : Nat} {ns : List Nd} (h : lI L E f i = .ok ns j) : ns.length + i <= j := by
 unfold lI at h
 split at h
 · obtain ⟨_, _, h1, h⟩ := PR.ax h
   obtain ⟨_, _, h2, h⟩ := PR.ax h
   obtain ⟨_, _, h3, h⟩ := PR.ax h
   obtain ⟨_, _, h4, h⟩ := PR.ax h
   have := x7 (fun h => ry h) h1; have := cU h2; have := cU h3; have := ry h4
   obtain ⟨rfl, rfl⟩ := PR.bF h; simp [bT]; omega
 · exact ry h
theorem BR {f i j : Nat} {ns : List Nd} (h : gm L E f i = .ok ns j) : ns.length + i <= j := by
 unfold gm at h
 obtain ⟨_, _, h1, h⟩ := PR.ax h
 obtain ⟨_, _, h2, h⟩ := PR.ax h
 obtain ⟨_, _, h3, h⟩ := PR.ax h
 have := jA h1; have := cU h2; have := x6 h3
 obtain ⟨rfl, rfl⟩ := PR.bF h; simp [bT]; omega
theorem qL : ∀ f : Nat,
 (∀ {i j ns}, fy L E f i = .ok ns j -> ns.length + i <= j) /\
 (∀ {i at_ acc many j ns}, jm L E f at_ acc many i = .ok ns j -> ns.length + i <= j + acc.length + (if many = 1 then 0 else 1)) /\
 (∀ {i j ns}, bR L E f i = .ok ns j -> ns.length + i <= j) /\
 (∀ {i lev j ns}, eo L E f lev i = .ok ns j -> ns.length + i <= j) /\
 (∀ {i lev left j ns}, ia L E f lev left i = .ok ns j -> ns.length + i <= j + left.length) /\
 (∀ {i j ns}, iU L E f i = .ok ns j -> ns.length + i <= j) /\
 (∀ {i acc j ns}, gO L E f acc i = .ok ns j -> ns.length + i <= j + acc.length) /\
 (∀ {i j ns}, gI L E f i = .ok ns j -> ns.length + i <= j) := by
 intro f
 induction f with
 | zero => refine ⟨?_, ?_, ?_, ?_, ?_, ?_, ?_, ?_⟩ <;> (intros; rename_i h; first | (rw [fy] at h; cases h; done) | (rw [jm] at h; cases h; done) | (rw [bR] at h; cases h; done) | (rw [eo] at h; cases h; done) | (rw [ia] at h; cases h; done) | (rw [iU] at h; cases h; done) | (rw [gO] at h; cases h; done) | (rw [gI] at h; cases h; done))
 | succ f ih =>
   obtain ⟨iT, iS, iF, iO, iP, iA, iG, iR⟩ := ih
   refine ⟨?_, ?_, ?_, ?_, ?_, ?_, ?_, ?_⟩
   · intro i j ns h
     rw [fy] at h
     obtain ⟨_, _, h1, h⟩ := PR.ax h
     have := iF h1; have := iS h
     simp at this; omega
   · intro i at_ acc many j ns h
     rw [jm] at h
     split at h
     · obtain ⟨_, _, h1, h⟩ := PR.ax h
       have := iF h1; have := iS h
       simp only [eQ] at this
       split at this <;> split <;> omega
     · obtain ⟨rfl, rfl⟩ := PR.bF h
       split <;> simp [bT] <;> omega
   · intro i j ns h
     rw [bR] at h
     split at h
     · obtain ⟨_, _, h1, h⟩ := PR.ax h
       obtain ⟨_, _, h2, h⟩ := PR.ax h
       obtain ⟨_, _, h3, h⟩ := PR.ax h
       obtain ⟨_, _, h4, h⟩ := PR.ax h
       obtain ⟨_, _, h5, h⟩ := PR.ax h
       have := iF h1; have := cU h2; have := iF h3; have := cU h4; have := iF h5
       obtain ⟨rfl, rfl⟩ := PR.bF h; simp [bT]; omega
     split at h
     · obtain ⟨_, _, h1, h⟩ := PR.ax h
       obtain ⟨_, _, h2, h⟩ := PR.ax h
       obtain ⟨_, _, h3, h⟩ := PR.ax h
       have := iF h1; have := cU h2; have := iF h3
       obtain ⟨rfl, rfl⟩ := PR.bF h; simp [bT]; omega
     split at h
     · obtain ⟨_, _, h1, h⟩ := PR.ax h
       obtain ⟨_, _, h2, h⟩ := PR.ax h
       obtain ⟨_, _, h3, h⟩ := PR.ax h
       obtain ⟨_, _, h4, h⟩ := PR.ax h
       obtain ⟨_, _, h5, h⟩ := PR.ax h
       obtain ⟨_, _, h6, h⟩ := PR.ax h
       obtain ⟨_, _, h7, h⟩ := PR.ax h
       have := jA h1; have := cU h2; have := nO h3; have := cU h4; have := nO h5; have := cU h6; have := iF h7
       obtain ⟨rfl, rfl⟩ := PR.bF h; simp [bT]; omega
     split at h
     · obtain ⟨_, _, h1, h⟩ := PR.ax h
       obtain ⟨_, _, h2, h⟩ := PR.ax h
       obtain ⟨_, _, h3, h⟩ := PR.ax h
       obtain ⟨_, _, h4, h⟩ := PR.ax h
       obtain ⟨_, _, h5, h⟩ := PR.ax h
       have := jA h1; have := cU h2; have := iF h3; have := cU h4; have := iF h5
       obtain ⟨rfl, rfl⟩ := PR.bF h; simp [bT]; omega
     split at h
     · obtain ⟨_, _, h1, h⟩ := PR.ax h
       obtain ⟨_, _, h2, h⟩ := PR.ax h
       obtain ⟨_, _, h3, h⟩ := PR.ax h
       have := iF h1; have := cU h2; have := iF h3
       obtain ⟨rfl, rfl⟩ := PR.bF h; simp [bT]; omega
     split at h
     · obtain ⟨_, _, h1, h⟩ := PR.ax h
       obtain ⟨_, _, h2, h⟩ := PR.ax h
       obtain ⟨_, _, h3, h⟩ := PR.ax h
       obtain ⟨_, _, h4, h⟩ := PR.ax h
       obtain ⟨_, _, h5, h⟩ := PR.ax h
       have := jA h1; have := cU h2; have := nO h3; have := cU h4; have := iF h5
       obtain ⟨rfl, rfl⟩ := PR.bF h; simp [bT]; omega
     split at h
     · obtain ⟨_, _, h1, h⟩ := PR.ax h
       obtain ⟨_, _, h2, h⟩ := PR.ax h
       obtain ⟨_, _, h3, h⟩ := PR.ax h
       have := jA h1; have := cU h2; have := iF h3
       obtain ⟨rfl, rfl⟩ := PR.bF h; simp [bT]; omega
     · exact iO h
   · intro i lev j ns h
     rw [eo] at h
     split at h
     · exact iA h
     split at h
     · split at h
       · obtain ⟨_, _, h1, h⟩ := PR.ax h
         have := iO h1
         obtain ⟨rfl, rfl⟩ := PR.bF h; simp [bT]; omega
       · exact iO h
     · obtain ⟨_, _, h1, h⟩ := PR.ax h
       have := iO h1; have := iP h
       omega
   · intro i lev left j ns h
     rw [ia] at h
     split at h
     · obtain ⟨rfl, rfl⟩ := PR.bF h; omega
     split at h
     · obtain ⟨_, _, h1, h⟩ := PR.ax h
       have := nO h1; have := iP h
       simp [bT] at this; omega
     · obtain ⟨_, _, h1, h⟩ := PR.ax h
       have := iO h1
       split at h
       · obtain ⟨rfl, rfl⟩ := PR.bF h; simp [bT]; omega
       · have := iP h
         simp [bT] at this; omega
   · intro i j ns h
     rw [iU] at h
     split at h
     · obtain ⟨rfl, rfl⟩ := PR.bF h; simp [bT]; omega
     split at h
     · obtain ⟨rfl, rfl⟩ := PR.bF h; simp [bT]; omega
     split at h
     · obtain ⟨rfl, rfl⟩ := PR.bF h; simp [bT]; omega
     split at h
     · obtain ⟨rfl, rfl⟩ := PR.bF h; simp [bT]; omega
     split at h
     · obtain ⟨_, _, h1, h⟩ := PR.ax h
       have := jA h1
       obtain ⟨rfl, rfl⟩ := PR.bF h; simp [bT]; omega
     split at h
     · obtain ⟨_, _, h1, h⟩ := PR.ax h
       have := jA h1
       obtain ⟨rfl, rfl⟩ := PR.bF h; simp [bT]; omega
     split at h
     · obtain ⟨_, _, h1, h⟩ := PR.ax h
       obtain ⟨_, _, h2, h⟩ := PR.ax h
       have := iT h1; have := cU h2
       obtain ⟨rfl, rfl⟩ := PR.bF h; omega
     split at h
     · obtain ⟨_, _, h1, h⟩ := PR.ax h
       have := nO h1
       obtain ⟨rfl, rfl⟩ := PR.bF h; simp [bT]; omega
     · obtain ⟨_, _, h1, h⟩ := PR.ax h
       have := jA h1
       split at h
       · obtain ⟨_, _, h2, h⟩ := PR.ax h
         obtain ⟨_, _, h3, h⟩ := PR.ax h
         obtain ⟨_, _, h4, h⟩ := PR.ax h
         have := iR h2; have := iG h3; have := cU h4
         obtain ⟨rfl, rfl⟩ := PR.bF h; simp [bT]; omega
       · obtain ⟨rfl, rfl⟩ := PR.bF h; simp [bT]; omega
   · intro i acc j ns h
     rw [gO] at h
     split at h
     · obtain ⟨_, _, h1, h⟩ := PR.ax h
       have := iR h1; have := iG h
       simp at this; omega
     · obtain ⟨rfl, rfl⟩ := PR.bF h; omega
   · intro i j ns h
     rw [gI] at h
     split at h
     · obtain ⟨_, _, h1, h⟩ := PR.ax h
       obtain ⟨_, _, h2, h⟩ := PR.ax h
       obtain ⟨_, _, h3, h⟩ := PR.ax h
       obtain ⟨_, _, h4, h⟩ := PR.ax h
       have := cU h1; have := x7 (fun h => xw h) h2; have := cU h3; have := iF h4
       obtain ⟨rfl, rfl⟩ := PR.bF h; simp [bT]; omega
     split at h
     · obtain ⟨_, _, h1, h⟩ := PR.ax h
       obtain ⟨_, _, h2, h⟩ := PR.ax h
       obtain ⟨_, _, h3, h⟩ := PR.ax h
       obtain ⟨_, _, h4, h⟩ := PR.ax h
       obtain ⟨_, _, h5, h⟩ := PR.ax h
       obtain ⟨_, _, h6, h⟩ := PR.ax h
       obtain ⟨_, _, h7, h⟩ := PR.ax h
       obtain ⟨_, _, h8, h⟩ := PR.ax h
       have := cU h1; have := iF h2; have := cU h3; have := cU h4; have := xw h5; have := cU h6; have := iF h7; have := cU h8
       obtain ⟨rfl, rfl⟩ := PR.bF h; simp [bT]; omega
     · exact iT h
theorem xZ {f i j : Nat} {ns : List Nd} (h : gB L E f i = .ok ns j) : ns.length + i <= j := by
 unfold gB at h
 split at h
 · obtain ⟨_, _, h1, h⟩ := PR.ax h
   obtain ⟨_, _, h2, h⟩ := PR.ax h
   obtain ⟨_, _, h3, h⟩ := PR.ax h
   obtain ⟨_, _, h4, h⟩ := PR.ax h
   have := jA h1; have := cU h2; have := x6 h3; have := cU h4
   obtain ⟨rfl, rfl⟩ := PR.bF h; simp [bT]; omega
 · obtain ⟨k, p, h0, h⟩ := PR.ax h
   obtain ⟨_, _, h1, h⟩ := PR.ax h
   obtain ⟨_, _, h2, h⟩ := PR.ax h
   obtain ⟨_, _, h3, h⟩ := PR.ax h
   obtain ⟨_, _, h4, h⟩ := PR.ax h
   obtain ⟨_, _, h5, h⟩ := PR.ax h
   obtain ⟨_, _, h6, h⟩ := PR.ax h
   obtain ⟨_, _, h7, h⟩ := PR.ax h
   obtain ⟨_, _, h8, h⟩ := PR.ax h
   obtain ⟨_, _, h9, h⟩ := PR.ax h
   have hp : p = i + 1 := by
    split at h0
    · exact (PR.bF h0).2.symm
    · obtain ⟨_, _, g1, g2⟩ := PR.ax h0
      have := cU g1
      have := (PR.bF g2).2
      omega
   have XJ : ∀ {a : List Nd} {j q : Nat}, (if bl L j eF = true then (PR.ok [] j : PR (List Nd)) else jr L (gm L E f) f j) = .ok a q -> a.length + j <= q := fun h => by
    split at h
    · obtain ⟨rfl, rfl⟩ := PR.bF h; simp
    · exact x7 (fun h => BR h) h
   have := jA h1; have := cU h2; have := XJ h3; have := cU h4; have := cU h5; have := ry h6; have := cU h7; have := (qL f).1 h8; have := cU h9
   obtain ⟨rfl, rfl⟩ := PR.bF h; simp [bT]; omega
end
end Go.Rip
namespace Go.Rip
section
variable {L : List Tk} {E E' : Nat}
theorem nP {i : Nat} (h : i < L.length) : bM L E i = bM L E' i := by
 unfold bM; rw [jQ h]
theorem lf {i : Nat} {w : aZ} (h : ¬ i < L.length) : bl L i w = false := by
 unfold bl; rw [l9 (by omega)]
theorem F1 {i k : Nat} (h : ¬ i < L.length) : eP L i k = false := by
 unfold eP; rw [l9 (by omega)]
theorem ya {i : Nat} (h : ¬ i < L.length) : dM L i = .bad i := by
 unfold dM; rw [l9 (by omega)]
theorem DV {i : Nat} {w : aZ} (h : ¬ i < L.length) : bm L w i = .bad i := by
 simp [bm, lf h]
theorem Rt {i lev : Nat} (h : ¬ i < L.length) : jB L lev i = none := by
 simp [jB, lf h]
theorem HS (i : Nat) : fJ L E i = fJ L E' i := by
 unfold fJ
 by_cases h : i < L.length
 · simp only [nP (E := E) (E' := E') h]
 · simp only [lf h, DV h, PR.bind, bH, if_false]
theorem UA (i : Nat) : jK L E i = jK L E' i := by
 unfold jK
 by_cases h : i < L.length
 · simp only [nP (E := E) (E' := E') h]
 · simp only [ya h, PR.bind]
theorem IC (f i : Nat) : lI L E f i = lI L E' f i := by
 have e : fJ L E = fJ L E' := funext HS
 unfold lI
 rw [e]
 by_cases h : i < L.length
 · simp only [nP (E := E) (E' := E') h]
 · simp only [lf h, bH, if_false]
theorem RA (f i : Nat) : gm L E f i = gm L E' f i := by
 unfold gm
 by_cases h : i < L.length
 · simp only [nP (E := E) (E' := E') h, IC (E := E) (E' := E')]
 · simp only [ya h, PR.bind]
theorem XG : ∀ f : Nat,
 (∀ i, fy L E f i = fy L E' f i) /\
 (∀ i at_ acc many, jm L E f at_ acc many i = jm L E' f at_ acc many i) /\
 (∀ i, bR L E f i = bR L E' f i) /\
 (∀ i lev, eo L E f lev i = eo L E' f lev i) /\
 (∀ i lev left, ia L E f lev left i = ia L E' f lev left i) /\
 (∀ i, iU L E f i = iU L E' f i) /\
 (∀ i acc, gO L E f acc i = gO L E' f acc i) /\
 (∀ i, gI L E f i = gI L E' f i) := by
 intro f
 induction f with
 | zero => refine ⟨?_, ?_, ?_, ?_, ?_, ?_, ?_, ?_⟩ <;> intros <;> simp only [fy, jm, bR, eo, ia, iU, gO, gI]
 | succ f ih =>
   obtain ⟨iT, iS, iF, iO, iP, iA, iG, iR⟩ := ih
   have eB : jK L E = jK L E' := funext UA
   refine ⟨?_, ?_, ?_, ?_, ?_, ?_, ?_, ?_⟩
   · intro i
     rw [fy, fy]
     simp only [iF, iS]
     congr 1
     funext a j
     by_cases h : j < L.length
     · rw [nP (E := E) (E' := E') h]
     · cases f with
       | zero => rw [jm, jm]
       | succ f => rw [jm, jm]; simp [lf h]
   · intro i at_ acc many
     rw [jm, jm]
     simp only [iF, iS]
   · intro i
     rw [bR, bR]
     simp only [iF, iO]
     by_cases h : i < L.length
     · simp only [nP (E := E) (E' := E') h]
     · simp only [lf h, F1 h, bH, if_false, false_and]
   · intro i lev
     rw [eo, eo]
     simp only [iO, iP, iA]
     by_cases h : i < L.length
     · simp only [nP (E := E) (E' := E') h]
     · simp only [lf h, bH, if_false]
   · intro i lev left
     rw [ia, ia]
     by_cases h : i < L.length
     · simp only [nP (E := E) (E' := E') h, iO, iP]
     · rw [Rt h]
   · intro i
     rw [iU, iU]
     simp only [iT, iR, iG]
     by_cases h : i < L.length
     · simp only [nP (E := E) (E' := E') h]
     · simp only [lf h, F1 h, ya h, PR.bind, bH, if_false]
   · intro i acc
     rw [gO, gO]
     simp only [iR, iG]
   · intro i
     rw [gI, gI, eB]
     simp only [iF, iT]
     by_cases h : i < L.length
     · simp only [nP (E := E) (E' := E') h]
     · simp only [lf h, bH, if_false]
theorem Iy (f i : Nat) : gB L E f i = gB L E' f i := by
 have e1 : gm L E f = gm L E' f := funext (RA f)
 unfold gB
 rw [e1]
 simp only [IC (E := E) (E' := E'), HS (E := E) (E' := E'), (XG (E := E) (E' := E') f).1]
 by_cases h : i < L.length
 · simp only [nP (E := E) (E' := E') h]
 · simp only [lf h, DV h, PR.bind, bH, if_false]
end
end Go.Rip
