/- Lemmas for the proof: no conditions. -/
import Derived.Test.YtnfpmiiopiinbaaGreatDoorRipZz
import Derived.Test.YtnfpmiiopiinbaaGreatDoorRipA
import Derived.OrdersIn
import Derived.RecoverIn
set_option linter.unusedVariables false
set_option linter.unusedSimpArgs false
set_option linter.loopingSimpArgs false
namespace Go.Rip
open Go.RowKit
inductive cu where
 | ret (x : AV)
 | panic (x : AV)
inductive Ex where
 | normal
 | exit (id : Nat)
 | ret
 | panic (x : AV)
def FW (ro : Option Nat) : Fence := { Fence.wide with round := ro }
def lh (g : Gh) (R : cu -> St -> Prop) : Ending -> World -> Prop
 | .returned v, w' => ∃ g' ad x, Gh.Le g g' /\ aS g' ad w' /\ ao g' x v /\ R (.ret x) ad
 | .panicked ch, w' => ∃ g' ad x v, ch = [{ v, recovered := false }] /\ Gh.Le g g' /\ aS g' ad w' /\ ao g' x v /\ R (.panic x) ad
 | .outgrown, _ => False
def ae (C : bX) (f : FuncId) (args : List AV) (U : St) (R : cu -> St -> Prop) : Prop :=
 ∀ g w vs, aS g U w -> ff C g -> ax g args vs -> CallsIn Fence.wide 0 C.P f (List.toArray vs) w (lh g R)
def iY (C : bX) (o : Nat) (args : List AV) (U : St) (R : cu -> St -> Prop) : Prop :=
 ∀ g w vs x, aS g U w -> ff C g -> ax g args vs -> g.place o = some x -> ∃ fn tmps assign body, (Instr.yield x.aB (List.toArray vs)).run C.P w = .ok (.round x.aB fn tmps assign body) w /\
  RoundIn Fence.wide 0 C.P x.aB fn tmps assign body w (lh g R)
theorem lh.mono {g : Gh} {R R' : cu -> St -> Prop} {e : Ending} {w : World} (h : lh g R e w) (hr : ∀ r U, R r U -> R' r U) : lh g R' e w := by
 cases e with
 | returned v => obtain ⟨g', ad, x, h1, h2, h3, h4⟩ := h; exact ⟨g', ad, x, h1, h2, h3, hr _ _ h4⟩
 | panicked ch => obtain ⟨g', ad, x, v, h0, h1, h2, h3, h4⟩ := h; exact ⟨g', ad, x, v, h0, h1, h2, h3, hr _ _ h4⟩
 | outgrown => exact h
theorem ae.mono {C : bX} {f : FuncId} {args : List AV} {U : St} {R R' : cu -> St -> Prop} (h : ae C f args U R) (hr : ∀ r U, R r U -> R' r U) : ae C f args U R' :=
 fun g w vs hs hG ha => (h g w vs hs hG ha).mono fun _ _ hp => hp.mono hr
theorem iY.mono {C : bX} {f : Nat} {args : List AV} {U : St} {R R' : cu -> St -> Prop} (h : iY C f args U R) (hr : ∀ r U, R r U -> R' r U) : iY C f args U R' :=
 fun g w vs x hs hG ha hx => let ⟨a, b, c, d, e, r⟩ := h g w vs x hs hG ha hx; ⟨a, b, c, d, e, r.mono fun _ _ hp => hp.mono hr⟩
def ar (K : AV -> St -> Prop) (Kp : AV -> St -> Prop) : cu -> St -> Prop
 | .ret x, U => K x U
 | .panic x, U => Kp x U
def aA.wp (C : bX) (U : St) (K : AV -> St -> Prop) (Kp : AV -> St -> Prop) : aA -> Prop
 | .val v => K v U
 | .iN v b x => K v (U.set b x)
 | .new k del x => ∀ b, (U.oz del).cB b -> K (k.at b) ((U.oz del).new b x)
 | .il b l => ∀ p ∈ l, K p.1 (U.set b p.2)
 | .enter f args => ae C f args U (ar K Kp)
 | .yield l args => iY C l args U (ar K Kp)
 | .panic v => Kp v U
 | @aA.cond p _ r => p /\ r.wp C U K Kp
 | .bad => False
def eV (ops : Array Oper) (ρ : Env) : Option (Nat × Bool) -> AV
 | none => .bool true
 | some (j, want) => match (ops[j]?).bind (·.dst) with
   | some d => match ρ.get d with
     | .bool b => .bool (b == want)
     | .aN [] => .bool false
     | _ => .any
   | none => .any
def az : AV -> Prop -> Prop -> Prop
 | .bool b, A, B => (b = true -> A) /\ (b = false -> B)
 | _, _, _ => False
def lC (C : bX) (mu : List Nat) (ops : Array Oper) : List Oper -> Env -> St -> (Env -> St -> Prop) -> (AV -> St -> Prop) -> Prop
 | [], ρ, U, K, _ => K ρ U
 | o :: rest, ρ, U, K, Kp => az (eV ops ρ o.guard)
    ((gh C (match o.dst with | some d => mu.contains d | none => false) o.op ρ U).wp C U (fun v ad => lC C mu ops rest (ρ.dk o.dst v) ad K Kp) Kp)
    (lC C mu ops rest (ρ.dk o.dst (.aN [])) U K Kp)
def A6 (r : Nat) : Deferred := { target := .collected r, args := #[] }
def BF (g : Gh) (Q : Ex -> Env -> St -> Prop) (ρ : Env) (U : St) : Exit -> Prop
 | .normal => Q .normal ρ U
 | .exit id => Q (.exit id) ρ U
 | .ret => Q .ret ρ U
 | .panic ch => ∃ x v, ch = [{ v, recovered := false }] /\ ao g x v /\ Q (.panic x) ρ U
 | .goto _ => False
 | .outgrown => False
inductive Ro where
 | fn
 | bare
 | round (o : Nat)
def Ro.nm : Ro -> Bool
 | .bare => true
 | _ => false
structure kV (nm : Bool) (g g' : Gh) (ms : List Nat) : Prop where
 none : nm = true -> ms = []
 nodup : ms.Nodup
 res : ∀ r ∈ ms, g'.res r = true /\ g.res r = false
theorem iE (nm : Bool) (g g' : Gh) : kV nm g g' [] := ⟨fun _ => rfl, List.nodup_nil, by simp⟩
theorem kV.append {nm : Bool} {g g1 g2 : Gh} {m1 m2 : List Nat} (h1 : kV nm g g1 m1) (h2 : kV nm g1 g2 m2) (l1 : Gh.Le g g1) (l2 : Gh.Le g1 g2) : kV nm g g2 (m2 ++ m1) := by
 refine ⟨fun h => by rw [h1.none h, h2.none h]; rfl, List.nodup_append.2 ⟨h2.nodup, h1.nodup, fun x hx y hy e => ?_⟩, fun r hr => ?_⟩
 · subst e
   have := (h2.res x hx).2
   rw [(h1.res x hy).1] at this; cases this
 · simp only [eH] at hr
   rcases hr with hr | hr
   · refine ⟨(h2.res r hr).1, ?_⟩
     cases e : g.res r with
     | false => rfl
     | true => have := (h2.res r hr).2; rw [l1.res _ e] at this; cases this
   · exact ⟨l2.res _ (h1.res r hr).1, (h1.res r hr).2⟩
def mX (g : Gh) (nt : Nat) (nm : Bool) (ds : List Deferred) (Q : Ex -> Env -> St -> Prop) (e : Exit) (a : Act) (w : World) : Prop :=
 a.tmps.size = nt /\ ∃ g' U ρ ms, a.defers = ms.map A6 ++ ds /\ kV nm g g' ms /\ Gh.Le g g' /\ aS g' U w /\ eE g' ρ a.tmps /\ BF g' Q ρ U e
def Bn (g : Gh) : Ro -> Option Nat -> Prop
 | .fn, none => True
 | .bare, none => True
 | .round o, some l => ∃ x, g.place o = some x /\ x.aB = l
 | _, _ => False
theorem Bn.mono {g g' : Gh} (h : Gh.Le g g') {ro : Ro} {fr : Option Nat} (hr : Bn g ro fr) : Bn g' ro fr := by
 cases ro <;> cases fr <;> simp only [Bn] at hr ⊢
 obtain ⟨x, h1, h2⟩ := hr
 exact ⟨x, h.place _ _ h1, h2⟩
def aY (C : bX) (nt : Nat) (ro : Ro) (c : Code) (Q : Ex -> Env -> St -> Prop) (ρ : Env) (U : St) : Prop :=
 ∀ g w a fr, aS g U w -> ff C g -> eE g ρ a.tmps -> a.tmps.size = nt -> Bn g ro fr -> c.wpIn (FW fr) 0 C.P (mX g nt ro.nm a.defers Q) a w
section
variable {C : bX} {g : Gh} {U : St} {w : World} {nt : Nat} {nm : Bool} {ro : Ro} {Q : Ex -> Env -> St -> Prop} {ρ : Env}
theorem BF.mono {Q' : Ex -> Env -> St -> Prop} {e : Exit} (h : BF g Q ρ U e) (hq : ∀ e ρ U, Q e ρ U -> Q' e ρ U) : BF g Q' ρ U e := by
 cases e <;> first
  | exact hq _ _ _ h
  | (obtain ⟨x, v, h1, h2, h3⟩ := h; exact ⟨x, v, h1, h2, hq _ _ _ h3⟩)
  | exact h
theorem aY.mono {c : Code} {Q' : Ex -> Env -> St -> Prop} (h : aY C nt ro c Q ρ U) (hq : ∀ e ρ U, Q e ρ U -> Q' e ρ U) : aY C nt ro c Q' ρ U :=
 fun g w a fr h1 h2 h3 h4 tD => wpIn_mono (h g w a fr h1 h2 h3 h4 tD) fun e a' w' ⟨k1, g', ad, cT, ms, k2, k3, k4, k5, k6, k7⟩ => ⟨k1, g', ad, cT, ms, k2, k3, k4, k5, k6, k7.mono hq⟩
theorem mX.back {g' : Gh} {ds : List Deferred} {ms : List Nat} {e : Exit} {a : Act} (h : mX g' nt nm (ms.map A6 ++ ds) Q e a w) (uu : kV nm g g' ms) (hle : Gh.Le g g') : mX g nt nm ds Q e a w := by
 obtain ⟨k1, g2, ad, cT, CH, k2, k3, k4, k5, k6, k7⟩ := h
 exact ⟨k1, g2, ad, cT, CH ++ ms, by rw [k2, List.map_append, kf], uu.append k3 hle k4, hle.trans k4, k5, k6, k7⟩
def Th (K : Env -> St -> Prop) (Q : Ex -> Env -> St -> Prop) : Ex -> Env -> St -> Prop
 | .normal, ρ, U => K ρ U
 | e, ρ, U => Q e ρ U
theorem aY.seq {x y : Code} (h : aY C nt ro x (Th (fun ρ U => aY C nt ro y Q ρ U) Q) ρ U) : aY C nt ro (.seq x y) Q ρ U := by
 intro g w a fr h1 h2 h3 h4 tD
 refine wpIn_seq (wpIn_mono (h g w a fr h1 h2 h3 h4 tD) ?_)
 rintro e a' w' ⟨k1, g', ad, cT, ms, k2, k3, k4, k5, k6, k7⟩
 cases e with
 | normal =>
   have := k7 g' w' a' fr k5 (h2.mono k4) k6 k1 (tD.mono k4)
   rw [k2] at this
   exact wpIn_mono this fun e a w hp => hp.back k3 k4
 | exit id => exact ⟨k1, g', ad, cT, ms, k2, k3, k4, k5, k6, k7⟩
 | ret => exact ⟨k1, g', ad, cT, ms, k2, k3, k4, k5, k6, k7⟩
 | panic ch => exact ⟨k1, g', ad, cT, ms, k2, k3, k4, k5, k6, k7⟩
 | goto l => exact k7.elim
 | outgrown => exact k7.elim
theorem uM {a : Act} {ds : List Deferred} {e : Exit} (h : aS g U w) (hr : eE g ρ a.tmps) (hn : a.tmps.size = nt) (hd : a.defers = ds) (hq : BF g Q ρ U e) : mX g nt nm ds Q e a w :=
 ⟨hn, g, U, ρ, [], by simpa using hd, iE _ _ _, Gh.Le.refl g, h, hr, hq⟩
theorem aY.skip (h : Q .normal ρ U) : aY C nt ro .skip Q ρ U := fun g w a fr h1 h2 h3 h4 _ => wpIn_skip (uM h1 h3 h4 rfl h)
theorem aY.exit {id : Nat} (h : Q (.exit id) ρ U) : aY C nt ro (.exit id) Q ρ U := fun g w a fr h1 h2 h3 h4 _ => wpIn_exit (uM h1 h3 h4 rfl h)
theorem aY.ret (h : Q .ret ρ U) : aY C nt ro .ret Q ρ U := fun g w a fr h1 h2 h3 h4 _ => wpIn_ret (uM h1 h3 h4 rfl h)
theorem aY.cond {c : Operand} {x y : Code} {b : Bool} (hc : ρ.ev C c = .bool b) (h1 : b = true -> aY C nt ro x Q ρ U) (h2 : b = false -> aY C nt ro y Q ρ U) : aY C nt ro (.cond c x y) Q ρ U := by
 intro g w a fr k1 k2 k3 k4 k5
 have := ph k2 k3 c
 rw [hc] at this
 simp only [ao] at this
 exact wpIn_cond_split this (fun e => h1 e g w a fr k1 k2 k3 k4 k5) (fun e => h2 e g w a fr k1 k2 k3 k4 k5)
theorem aY.Vf {c : Operand} {x y : Code} (hc : ρ.ev C c = .bool true) (h1 : aY C nt ro x Q ρ U) : aY C nt ro (.cond c x y) Q ρ U := aY.cond hc (fun _ => h1) (fun h => by cases h)
theorem aY.Ve {c : Operand} {x y : Code} (hc : ρ.ev C c = .bool false) (h1 : aY C nt ro y Q ρ U) : aY C nt ro (.cond c x y) Q ρ U := aY.cond hc (fun h => by cases h) (fun _ => h1)
def tV (id : Nat) (Q : Ex -> Env -> St -> Prop) : Ex -> Env -> St -> Prop
 | .exit wg, ρ, U => if wg = id then Q .normal ρ U else Q (.exit wg) ρ U
 | e, ρ, U => Q e ρ U
theorem aY.block {id : Nat} {c : Code} (h : aY C nt ro c (tV id Q) ρ U) : aY C nt ro (.block id c) Q ρ U := by
 intro g w a fr h1 h2 h3 h4 tD
 refine wpIn_block (wpIn_mono (h g w a fr h1 h2 h3 h4 tD) ?_)
 rintro e a' w' ⟨k1, g', ad, cT, ms, k2, k3, k4, k5, k6, k7⟩
 cases e with
 | normal => exact ⟨k1, g', ad, cT, ms, k2, k3, k4, k5, k6, k7⟩
 | exit wg =>
   have k7 : tV id Q (.exit wg) cT ad := k7
   simp only [tV] at k7
   simp only [Exit.inBlock]
   split
   · rename_i e; rw [if_pos e] at k7; exact ⟨k1, g', ad, cT, ms, k2, k3, k4, k5, k6, k7⟩
   · rename_i e; rw [if_neg e] at k7; exact ⟨k1, g', ad, cT, ms, k2, k3, k4, k5, k6, k7⟩
 | ret => exact ⟨k1, g', ad, cT, ms, k2, k3, k4, k5, k6, k7⟩
 | panic ch => exact ⟨k1, g', ad, cT, ms, k2, k3, k4, k5, k6, k7⟩
 | goto l => exact k7.elim
 | outgrown => exact k7.elim
theorem aY.loop {c : Code} (I : Nat -> Env -> St -> Prop) {n : Nat} (h0 : I n ρ U) (round : ∀ n ρ U, I n ρ U -> aY C nt ro c (Th (fun cT ad => ∃ m, m < n /\ I m cT ad) Q) ρ U) : aY C nt ro (.loop c) Q ρ U := by
 intro g w a fr h1 h2 h3 h4 tD
 let J : Nat -> Act -> World -> Prop := fun n a' w' => a'.tmps.size = nt /\ ∃ g' ad cT ms, a'.defers = ms.map A6 ++ a.defers /\ kV ro.nm g g' ms /\ Gh.Le g g' /\ aS g' ad w' /\ eE g' cT a'.tmps /\ I n cT ad
 have ex : ∀ a' w', (∃ n, J n a' w') -> ∃ n, J n a' w' /\ ∀ m, m < n -> ¬ J m a' w' := fun a' w' ⟨n, hn⟩ => by
  induction n using Nat.strongRecOn with
  | _ n ih =>
    by_cases hm : ∃ m, m < n /\ J m a' w'
    · obtain ⟨m, Et, NU⟩ := hm; exact ih m Et NU
    · exact ⟨n, hn, fun m Et NU => hm ⟨m, Et, NU⟩⟩
 classical
 let μ : Act -> World -> Nat := fun a' w' => if h : ∃ n, J n a' w' then (ex a' w' h).choose else 0
 have W9 : ∀ a' w', (∃ n, J n a' w') -> J (μ a' w') a' w' /\ ∀ m, m < μ a' w' -> ¬ J m a' w' := fun a' w' h => by
  have := (ex a' w' h).choose_spec
  simp only [μ, dif_pos h]; exact this
 refine wpIn_loop (fun a' w' => ∃ n, J n a' w') μ ⟨n, h4, g, U, ρ, [], by simp, iE _ _ _, Gh.Le.refl g, h1, h3, h0⟩ ?_
 intro a' w' hJ
 obtain ⟨⟨k1, g', ad, cT, ms, k2, k3, k4, k5, k6, k7⟩, _⟩ := W9 a' w' hJ
 refine wpIn_mono (round _ cT ad k7 g' w' a' fr k5 (h2.mono k4) k6 k1 (tD.mono k4)) ?_
 intro e a2 w2 hp
 rw [k2] at hp
 have hp := hp.back k3 k4
 obtain ⟨q1, g2, bJ, nq, CH, q2, q3, q4, q5, q6, q7⟩ := hp
 cases e with
 | normal =>
   obtain ⟨m, hm, hI⟩ := q7
   have RM : J m a2 w2 := ⟨q1, g2, bJ, nq, CH, q2, q3, q4, q5, q6, hI⟩
   refine ⟨⟨m, RM⟩, ?_⟩
   have := (W9 a2 w2 ⟨m, RM⟩).2
   rcases fT (μ a2 w2) (μ a' w') with h | h
   · exact h
   · exact absurd RM (this m (by omega))
 | exit id => exact ⟨q1, g2, bJ, nq, CH, q2, q3, q4, q5, q6, q7⟩
 | ret => exact ⟨q1, g2, bJ, nq, CH, q2, q3, q4, q5, q6, q7⟩
 | panic ch => exact ⟨q1, g2, bJ, nq, CH, q2, q3, q4, q5, q6, q7⟩
 | goto l => exact q7.elim
 | outgrown => exact q7.elim
end
end Go.Rip
namespace Go.Rip
open Go.RowKit
section
variable {C : bX} {g : Gh} {U : St} {w : World} {nt : Nat} {nm : Bool} {ro : Ro} {fr : Option Nat} {Q : Ex -> Env -> St -> Prop} {ρ : Env}
def xd (nt : Nat) (o : Oper) : Bool :=
 (match o.dst with | some d => decide (d < nt) | none => true) && (match o.op with | .defer _ => false | _ => true)
def iu (nt : Nat) (ops : Array Oper) : Bool := ops.toList.all (xd nt)
theorem vU {ops : Array Oper} {a : Act} (hr : eE g ρ a.tmps) {o : Oper} {b : Bool} (h : eV ops ρ o.guard = .bool b) : Region.wanted o (yielded ops a.tmps) = b := by
 unfold eV at h
 unfold Region.wanted
 cases hg : o.guard with
 | none => simp [hg] at h; simp [h]
 | some jw =>
   obtain ⟨j, want⟩ := jw
   simp only [hg] at h ⊢
   split at h
   · rename_i d hd
     split at h
     · rename_i b' hb
       simp only [AV.bool.injEq] at h
       subst h
       have := hr d
       rw [hb] at this
       simp only [ao] at this
       have oA : a.tmps[d]? = some (.bool b') := by
        rw [Array.getD_eq_getD_getElem?] at this
        cases ht : a.tmps[d]? with
        | none => rw [ht] at this; simp [undef] at this
        | some v => rw [ht] at this; simp at this; rw [this]
       unfold yielded
       rw [hd]
       simp only [Option.bind_some, oA]
       cases b' <;> cases want <;> rfl
     · rename_i hb
       simp only [AV.bool.injEq] at h
       subst h
       have := hr d
       rw [hb] at this
       simp only [ao, ax] at this
       obtain ⟨vs, this, rfl⟩ := this
       have oA : ∀ b, a.tmps[d]? ≠ some (.bool b) := fun b cZ => by
        rw [Array.getD_eq_getD_getElem?, cZ] at this
        simp at this
       unfold yielded
       rw [hd]
       simp only [Option.bind_some]
       first
        | rfl
        | (split
           · rename_i b' cZ; exact absurd cZ (oA _)
           · rfl)
     · cases h
   · cases h
theorem kK (a : Act) (dst : Option Tmp) (v : Value) : (a.put dst v).defers = a.defers /\ (a.put dst v).tmps.size = a.tmps.size := by
 cases dst <;> simp [Act.put]
theorem eE.dk {a : Act} (hr : eE g ρ a.tmps) {dst : Option Tmp} {x : AV} {v : Value} (hd : ∀ d, dst = some d -> d < a.tmps.size) (hx : ao g x v) : eE g (ρ.dk dst x) (a.put dst v).tmps := by
 cases dst with
 | none => exact hr
 | some d => exact hr.put (hd d rfl) hx
theorem qv : ao g (.aN []) undef := by simp only [ao]; exact ⟨[], rfl, by simp [ax]⟩
def KQ (Q : Ex -> Env -> St -> Prop) : Env -> St -> Prop := fun ρ U => Q .normal ρ U
def tt (Q : Ex -> Env -> St -> Prop) : AV -> St -> Prop := fun x U => ∀ ρ, Q (.panic x) ρ U
theorem l9 {o : Oper} (ca : xd nt o = true) {mu : Bool} {K : AV -> St -> Prop} {Kp : AV -> St -> Prop} {ds : List Deferred} {next : Act -> World -> Prop} {a : Act}
 (hs : aS g U w) (hG : ff C g) (hr : eE g ρ a.tmps) (hn : a.tmps.size = nt)
 (h : (gh C mu o.op ρ U).wp C U K Kp)
 (kX : ∀ g' ad w' x v, Gh.Le g g' -> aS g' ad w' -> ao g' x v -> K x ad -> next (a.put o.dst v) w')
 {QQ : Exit -> Act -> World -> Prop} (Cb : ∀ g' ad w' x v, Gh.Le g g' -> aS g' ad w' -> ao g' x v -> Kp x ad -> QQ (.panic [{ v, recovered := false }]) a w') :
 o.wpIn (FW fr) 0 C.P a w next QQ := by
 refine ⟨fun _ _ => trivial, ?_⟩
 have LV : ∀ c, o.op ≠ .defer c := fun c e => by simp [xd, e] at ca
 rw [Oper.semAt_eq _ _ _ LV]
 have fits := Mm (C := C) hs hG hr mu o
 generalize hres : (execOp a.eval o).run C.P w = res at fits ⊢
 generalize gh C mu o.op ρ U = r at fits h
 have val : ∀ {x ad}, (∃ u w' g', (res = .ok (.value u) w' \/ (res = .ok .skip w' /\ u = undef)) /\ Gh.Le g g' /\ aS g' ad w' /\ ao g' x u) -> K x ad -> o.uponIn (FW fr) 0 C.P a next QQ res := by
  rintro x ad ⟨u, w', g', hu, hle, dw, hx⟩ hk
  rcases hu with rfl | ⟨rfl, rfl⟩
  · exact kX g' ad w' x u hle dw hx hk
  · exact kX g' ad w' x undef hle dw hx hk
 induction r with
 | val v => exact val fits h
 | iN v b x => exact val fits h
 | new k del x => obtain ⟨u, w', g', b, rfl, hb, hle, dw, hx⟩ := fits; exact kX g' _ w' _ u hle dw hx (h b hb)
 | il b l => obtain ⟨u, w', g', v, x, rfl, hm, hle, dw, hx⟩ := fits; exact kX g' _ w' _ u hle dw hx (h (v, x) hm)
 | enter f args =>
   obtain ⟨vs, w', rfl, dw, ha⟩ := fits
   refine ⟨fun hd => by simp [FW, Fence.wide] at hd, ?_⟩
   have hc : CallsIn (FW fr) 0 C.P f (List.toArray vs) w' (lh g (ar K Kp)) := h g w' vs dw hG ha
   refine hc.mono ?_
   rintro e w2 hp
   cases e with
   | returned v => obtain ⟨g', ad, x, h1, h2, h3, h4⟩ := hp; exact kX g' ad w2 x v h1 h2 h3 h4
   | panicked ch => obtain ⟨g', ad, x, v, rfl, h1, h2, h3, h4⟩ := hp; exact Cb g' ad w2 x v h1 h2 h3 h4
   | outgrown => exact hp.elim
 | yield l args =>
   obtain ⟨vs, x, w0, w', hx, rfl, rfl, dw, ha⟩ := fits
   obtain ⟨fn, tmps, assign, body, hy, hR⟩ := h g w' vs x dw hG ha hx
   rw [hy]
   refine ⟨fun hd => by simp [FW, Fence.wide] at hd, ?_⟩
   have hc : RoundIn (FW fr) 0 C.P x.aB fn tmps assign body w' (lh g (ar K Kp)) := hR
   refine hc.mono ?_
   rintro e w2 hp
   cases e with
   | returned v => obtain ⟨g', ad, x, h1, h2, h3, h4⟩ := hp; exact kX g' ad w2 x v h1 h2 h3 h4
   | panicked ch => obtain ⟨g', ad, x, v, rfl, h1, h2, h3, h4⟩ := hp; exact Cb g' ad w2 x v h1 h2 h3 h4
   | outgrown => exact hp.elim
 | panic v => obtain ⟨u, w', rfl, dw, hx⟩ := fits; exact Cb g _ w' v u (Gh.Le.refl g) dw hx h
 | cond p r ih => exact ih (fits h.1) h.2
 | bad => exact h.elim
theorem sK {mu : List Nat} {ops : Array Oper} (ca : iu nt ops = true) (g0 : Gh) : ∀ (l : List Nat) (g : Gh) (U : St) (w : World) (ρ : Env) (a : Act) (ds : List Deferred), Gh.Le g0 g -> aS g U w -> ff C g -> eE g ρ a.tmps -> a.tmps.size = nt -> a.defers = ds ->
 lC C mu ops (l.filterMap (ops[·]?)) ρ U (KQ Q) (tt Q) -> wpOpsIn (FW fr) 0 C.P ops (mX g0 nt nm ds Q) l a w
 | [], g, U, w, ρ, a, ds, h0, hs, hG, hr, hn, hd, h => by
   simp only [wpOpsIn]
   exact ⟨hn, g, U, ρ, [], by simpa using hd, iE _ _ _, h0, hs, hr, h⟩
 | i :: rest, g, U, w, ρ, a, ds, h0, hs, hG, hr, hn, hd, h => by
   simp only [wpOpsIn]
   cases ho : ops[i]? with
   | none =>
     simp only [List.filterMap_cons, ho] at h
     exact sK ca g0 rest g U w ρ a ds h0 hs hG hr hn hd h
   | some o =>
     dsimp only
     simp only [List.filterMap_cons, ho, lC] at h
     have jx : o ∈ ops.toList := by
      have := fS (l := ops.toList) (i := i) (a := o) (by rw [gX]; exact ho)
      exact this
     have Ca : xd nt o = true := by
      unfold iu at ca
      rw [eh] at ca
      exact ca o jx
     have LW : ∀ d, o.dst = some d -> d < a.tmps.size := fun d tB => by
      simp only [xd, tB, bM, dD] at Ca
      rw [hn]; exact Ca.1
     have go : ∀ g' ad w' x v, Gh.Le g g' -> aS g' ad w' -> ao g' x v -> lC C mu ops (rest.filterMap (ops[·]?)) (ρ.dk o.dst x) ad (KQ Q) (tt Q) -> wpOpsIn (FW fr) 0 C.P ops (mX g0 nt nm ds Q) rest (a.put o.dst v) w' := fun g' ad w' x v hle dw hx hk =>
      sK ca g0 rest g' ad w' (ρ.dk o.dst x) (a.put o.dst v) ds (h0.trans hle) dw (hG.mono hle) ((hr.mono hle).dk LW hx) (by rw [(kK a o.dst v).2]; exact hn) (by rw [(kK a o.dst v).1]; exact hd) hk
     cases H2 : eV ops ρ o.guard <;> rw [H2] at h <;> simp only [az] at h
     rename_i b
     have hw := vU hr H2
     cases b
     · rw [if_neg (by rw [hw]; simp)]
       exact ⟨fun _ _ => trivial, go g U w (.aN []) undef (Gh.Le.refl g) hs qv (h.2 rfl)⟩
     · rw [if_pos hw]
       refine l9 Ca hs hG hr hn (h.1 rfl) go ?_ (ds := ds)
       intro g' ad w' x v hle dw hx hk
       exact ⟨hn, g', ad, ρ, [], by simpa using hd, iE _ _ _, h0.trans hle, dw, hr.mono hle, x, v, rfl, hx, hk ρ⟩
theorem yk (ops : Array Oper) : (List.range ops.size).filterMap (ops[·]?) = ops.toList := by
 apply List.ext_getElem?
 intro i
 have : ∀ n, n <= ops.size -> (List.range n).filterMap (ops[·]?) = ops.toList.take n := fun n => by
  induction n with
  | zero => intro _; simp
  | succ n ih =>
    intro hn
    rw [List.range_succ, List.filterMap_append, ih (by omega), sW]
    have : ops[n]? = some ops[n] := by simp
    simp [this]
 rw [this ops.size (cG _), qR (by simp)]
theorem aY.region {id : Nat} {ops : Array Oper} (mu : List Nat) (ca : iu nt ops = true) (h : lC C mu ops ops.toList ρ U (KQ Q) (tt Q)) : aY C nt ro (.region id ops false) Q ρ U := by
 intro g w a fr h1 h2 h3 h4 tD
 exact wpIn_region (sK ca g (List.range ops.size) g U w ρ a a.defers (Gh.Le.refl g) h1 h2 h3 h4 rfl (by rw [yk]; exact h))
end
end Go.Rip
namespace Go.Rip
open Go.RowKit
def kr (x : AV) (U : St) (x' : AV) (ad : St) : Prop := ∀ g w v, aS g U w -> ao g x v -> ∃ g', Gh.Le g g' /\ aS g' ad w /\ ao g' x' v
theorem kr.refl (x : AV) (U : St) : kr x U x U := fun g w v h hr => ⟨g, Gh.Le.refl g, h, hr⟩
theorem kr.trans {x y z : AV} {a b c : St} (h : kr x a y b) (k : kr y b z c) : kr x a z c := fun g w v hs hr =>
 let ⟨g1, l1, s1, r1⟩ := h g w v hs hr
 let ⟨g2, l2, s2, r2⟩ := k g1 w v s1 r1
 ⟨g2, l1.trans l2, s2, r2⟩
theorem kr.weaken (x : AV) {U ad : St} (h : St.Le ad U) : kr x U x ad := fun g w v hs hr => ⟨g, Gh.Le.refl g, hs.weaken h, hr⟩
theorem kr.freeze {b : Nat} {U : St} {l : List AV} (hb : U.box b = some l) : kr (.box b 0) U (.bY l) (U.del b) := fun g w v hs hr => by
 simp only [ao] at hr
 obtain ⟨x, hx, rfl⟩ := hr
 obtain ⟨g', vs, hle, _, hi, hl, dw⟩ := hs.freeze hb hx
 exact ⟨g', hle, dw, by simp only [ao]; exact ⟨x.aB, 0, vs, rfl, hi, hl.mono hle⟩⟩
def vD (P : Program) (t : TypeId) (p : AV) (U : St) (k : AV -> Prop) : Prop :=
 match qk P t p U with
 | .val v => k v
 | @aA.cond q _ (.val v) => q /\ k v
 | _ => False
def qT (P : Program) (ρ : Env) (U : St) : List ResultVar -> (List AV -> Prop) -> Prop
 | [], k => k []
 | .tmp t :: rs, k => qT P ρ U rs fun vs => k (ρ.get t :: vs)
 | .cell t ty :: rs, k => vD P ty (ρ.get t) U fun v => qT P ρ U rs fun vs => k (v :: vs)
def qY : List AV -> AV
 | [x] => x
 | l => .aN l
def YM (P : Program) (fn : Func) (R : cu -> St -> Prop) : Ex -> Env -> St -> Prop
 | .normal, ρ, U | .ret, ρ, U => qT P ρ U fn.results.toList fun vs => ∃ x ad, kr (qY vs) U x ad /\ R (.ret x) ad
 | .panic x, _, U => R (.panic x) U
 | .exit _, _, _ => False
def Env.gg (args : List AV) : Env := ⟨fun t => args.getD t (.aN [])⟩
section
variable {C : bX} {g : Gh} {U : St} {w : World} {nt : Nat} {ro : Ro} {Q : Ex -> Env -> St -> Prop} {ρ : Env}
theorem IA (h : aS g U w) {t : TypeId} {p : AV} {v : Value} (hp : ao g p v) {k : AV -> Prop} (hk : vD C.P t p U k) : ∃ u x, (do loadVar t (<- asAddr v) : Sem Value).run C.P w = .ok u w /\ ao g x u /\ k x := by
 unfold vD qk at hk
 cases hv : kh C.P t with
 | none => simp [hv] at hk
 | some bs =>
   obtain ⟨b, sz⟩ := bs
   cases hl : ja U p with
   | none => rw [hv, hl] at hk; cases b <;> simp at hk
   | some l =>
     rw [hv, hl] at hk
     obtain ⟨i, d, hi, hd, hb, da⟩ := kS hv
     obtain ⟨a, vs, rfl, ha, hr, hc⟩ := nS h hp hl
     cases b
     · cases l with
       | nil => simp [fl] at hk
       | cons x xs =>
         simp only [fl] at hk
         simp only [ax] at hr
         obtain ⟨u, us, rfl, h1, h2⟩ := hr
         have := (hc 0 u rfl).1
         have h0 : a.add 0 = a := by simp [Addr.add]
         rw [h0] at this
         refine ⟨u, x, ?_, h1, hk⟩
         simp only [asAddr, loadVar, bC, bT, bQ, iv hd, hb, bu, if_false, run_load, this, dE]
     · obtain ⟨hle, hk⟩ := hk
       have hlen := hr.length
       have eQ : (loadCells a (vs.take sz).length).run C.P w = .ok (vs.take sz).toArray w :=
        run_loadCells_list (P := C.P) w a (vs.take sz) fun j u hu => by
         rw [List.getElem?_take] at hu
         split at hu
         · exact (hc j u hu).1
         · cases hu
       have pr : (vs.take sz).length = sz := by simp; omega
       rw [pr] at eQ
       have HN : ∀ u ∈ vs.take sz, u.oneCell' = true := fun u hu => by
        obtain ⟨j, hj⟩ := List.getElem?_of_mem hu
        rw [List.getElem?_take] at hj
        split at hj
        · exact (hc j u hj).2
        · cases hj
       refine ⟨.agg (vs.take sz).toArray, _, ?_, ?_, hk⟩
       · simp only [asAddr, loadVar, bC, bT, bQ, iv hd, hb, if_true, dp hi, da, eQ, dE]
       · simp only [ao]; exact ⟨_, rfl, HN, hr.take sz⟩
theorem xh (h : aS g U w) {a : Act} (hr : eE g ρ a.tmps) : ∀ (rs : List ResultVar) (k : List AV -> Prop), qT C.P ρ U rs k ->
 ∃ us xs, (rs.mapM (fun
  | .tmp t => pure (a.tmps.getD t undef)
  | .cell p t => do loadVar t (<- asAddr (a.tmps.getD p undef)) : ResultVar -> Sem Value)).run C.P w = .ok us w /\ ax g xs us /\ k xs
 | [], k, hk => ⟨[], [], by simp, by simp [ax], hk⟩
 | .tmp t :: rs, k, hk => by
   obtain ⟨us, xs, h1, h2, h3⟩ := xh h hr rs _ hk
   exact ⟨a.tmps.getD t undef :: us, ρ.get t :: xs, by simp only [List.mapM_cons, bC, bT, bQ, h1], by simp only [ax]; exact ⟨_, _, rfl, hr t, h2⟩, h3⟩
 | .cell p t :: rs, k, hk => by
   obtain ⟨u, x, h4, h5, h6⟩ := IA h (hr p) hk
   obtain ⟨us, xs, h1, h2, h3⟩ := xh h hr rs _ h6
   simp only [bC] at h4
   exact ⟨u :: us, x :: xs, by simp only [List.mapM_cons, bC, bT, h4, bQ, h1], by simp only [ax]; exact ⟨_, _, rfl, h5, h2⟩, h3⟩
theorem wA (h : aS g U w) {a : Act} (hr : eE g ρ a.tmps) {fn : Func} {k : List AV -> Prop} (hk : qT C.P ρ U fn.results.toList k) :
 ∃ u xs, (results fn a.tmps).run C.P w = .ok u w /\ ao g (qY xs) u /\ k xs := by
 obtain ⟨us, xs, h1, h2, h3⟩ := xh h hr _ k hk
 have e : (results fn a.tmps).run C.P w = .ok (if h : us.toArray.size = 1 then us.toArray[0] else .tuple us.toArray) w := by
  unfold results
  rw [Array.mapM_eq_mapM_toList]
  simp only [bC, Sem.run_map, bT]
  erw [h1]
  rfl
 refine ⟨_, xs, e, ?_, h3⟩
 match xs, us, h2 with
 | [], us, h2 =>
   simp only [ax] at h2; subst h2
   simp [qY, ao, ax]
 | [x], us, h2 =>
   simp only [ax] at h2
   obtain ⟨u, _, rfl, h4, rfl⟩ := h2
   simpa [qY] using h4
 | x :: y :: zs, us, h2 =>
   have hl := h2.length
   rw [dif_neg (by simp at hl ⊢; omega)]
   simp only [qY, ao]
   exact ⟨us, rfl, h2⟩
theorem wN (args : List AV) (vs : List Value) (n : Nat) (ha : ax g args vs) : eE g (Env.gg args) (vs.toArray ++ Array.replicate n undef) := fun t => by
 simp only [Env.gg, Array.getD_eq_getD_getElem?, zp, Array.getElem?_append, List.size_toArray, List.getElem?_toArray]
 have hl := ha.length
 by_cases ht : t < vs.length
 · rw [if_pos ht]
   obtain ⟨x, hx⟩ : ∃ x, args[t]? = some x := ⟨args[t]'(by omega), by simp⟩
   obtain ⟨v, hv, hr⟩ := ha.get hx
   rw [hx, hv]; exact hr
 · rw [if_neg ht, mb (by omega)]
   simp only [Option.getD_none]
   have : ((Array.replicate n undef)[t - vs.length]?).getD undef = undef := by
    rw [Array.getElem?_replicate]; split <;> rfl
   rw [this]; exact qv
theorem mR {fn : Func} {a : Act} {R : cu -> St -> Prop} (g0 : Gh) : ∀ (ms : List Nat) (g : Gh) (w : World) (u : FrameMode), ms.Nodup -> (∀ r ∈ ms, g.res r = true /\ g0.res r = false) -> Gh.Le g0 g -> aS g U w -> eE g ρ a.tmps ->
 ((u = .returning /\ qT C.P ρ U fn.results.toList fun vs => ∃ x ad, kr (qY vs) U x ad /\ R (.ret x) ad) \/ (∃ x v, u = .panicking [{ v, recovered := false }] /\ ao g x v /\ R (.panic x) U)) ->
 LeavesInM Fence.wide 0 C.P fn a.tmps (lh g0 R) (ms.map A6) u w
 | [], g, w, u, _, _, hle, hs, hr, h => by
   simp only [ke, LeavesInM]
   rcases h with ⟨rfl, h⟩ | ⟨x, v, rfl, hx, h⟩
   · obtain ⟨v, xs, eQ, hv, x, ad, ht, hR⟩ := wA hs hr h
     obtain ⟨g', FZ, dw, hx⟩ := ht g w v hs hv
     exact ⟨v, eQ, g', ad, x, hle.trans FZ, dw, hx, hR⟩
   · exact ⟨g, U, x, v, rfl, hle, hs, hx, h⟩
 | r :: ms, g, w, u, hnd, uu, hle, hs, hr, h => by
   simp only [dN, LeavesInM]
   refine ⟨by rcases h with ⟨rfl, _⟩ | ⟨_, _, rfl, _⟩ <;> simp, .inl ⟨r, { w with heap := w.heap.setIfInBounds r (Obj.deferred none) }, rfl, ?_, ?_⟩⟩
   · obtain ⟨_, hh⟩ := hs.res r (uu r (by simp)).1
     simp [Instr.takeDeferred, getObj, setObj, bC, Sem.run, hh, Result.andThen]
   · have WO : Gh.pa g { g with res := fun x => if x = r then false else g.res x } := ⟨fun _ _ h => h, fun _ _ _ h => h, fun _ _ h => h⟩
     refine mR g0 ms { g with res := fun x => if x = r then false else g.res x } _ u (List.nodup_cons.1 hnd).2 (fun q hq => ?_) ?_ (hs.shut (uu r (by simp)).1) (fun t => (hr t).dv WO) ?_
     · refine ⟨?_, (uu q (by simp [hq])).2⟩
       show (if q = r then false else g.res q) = true
       rw [if_neg (fun e : q = r => by subst e; exact (List.nodup_cons.1 hnd).1 hq)]
       exact (uu q (by simp [hq])).1
     · refine ⟨hle.base, hle.w0, hle.place, hle.bI, hle.bo, fun q hq => ?_, hle.uz, hle.rF⟩
       show (if q = r then false else g.res q) = true
       have bW : q ≠ r := fun e => by subst e; rw [(uu q (by simp)).2] at hq; cases hq
       rw [if_neg bW]
       exact hle.res q hq
     · rcases h with h | ⟨x, v, h1, h2, h3⟩
       · exact .inl h
       · exact .inr ⟨x, v, h1, h2.dv WO, h3⟩
theorem ae.EU {f : FuncId} {fn : Func} {c : Code} {args : List AV} {R : cu -> St -> Prop} (hf : C.P.funcs[f]? = some fn) (hb : fn.body = some c) (hlen : args.length <= fn.ntmps)
 (h : aY C fn.ntmps .fn c (YM C.P fn R) (Env.gg args) U) : ae C f args U R := by
 intro g w vs hs hG ha
 have hl := ha.length
 refine callsIn_of_wp_marks hf hb trivial ?_
 have zb := wN args vs (fn.ntmps - args.length) ha
 have := h g w { tmps := vs.toArray ++ Array.replicate (fn.ntmps - vs.toArray.size) undef, defers := [] } none hs hG (by
  have e : vs.toArray.size = args.length := by simpa using hl
  rw [e]; exact zb) (by simp; omega) trivial
 refine wpIn_mono this ?_
 rintro e a w' ⟨k1, g', ad, cT, ms, k2, k3, k4, k5, k6, k7⟩
 simp only [iI] at k2
 cases e with
 | normal =>
   show LeavesInM _ _ _ _ _ _ a.defers _ _
   rw [k2]
   exact mR g ms g' w' _ k3.nodup k3.res k4 k5 k6 (.inl ⟨rfl, k7⟩)
 | ret =>
   show LeavesInM _ _ _ _ _ _ a.defers _ _
   rw [k2]
   exact mR g ms g' w' _ k3.nodup k3.res k4 k5 k6 (.inl ⟨rfl, k7⟩)
 | panic ch =>
   obtain ⟨x, v, rfl, hx, hR⟩ := k7
   show LeavesInM _ _ _ _ _ _ a.defers _ _
   rw [k2]
   exact mR g ms g' w' _ k3.nodup k3.res k4 k5 k6 (.inr ⟨x, v, rfl, hx, hR⟩)
 | exit id => exact k7.elim
 | goto l => exact k7.elim
 | outgrown => exact k7.elim
def Pure (C : bX) (f : FuncId) (args : List AV) (x : AV) : Prop := ∀ U R, R (.ret x) U -> ae C f args U R
end
end Go.Rip
namespace Go.Rip
open Go.RowKit
section
variable {C : bX} {g : Gh} {U : St} {w : World} {nt : Nat} {ro : Ro} {Q : Ex -> Env -> St -> Prop} {ρ : Env}
def Td (o : Nat) (Q : Ex -> Env -> St -> Prop) (ρ : Env) : cu -> St -> Prop
 | .ret _, ad => ∃ L, ad.loop o = some L /\ L.state ≠ .busy /\ (match L.ee with
   | none => Q .normal ρ (ad.del o)
   | some .ret => Q .ret ρ (ad.del o)
   | some (.exit id) => Q (.exit id) ρ (ad.del o)
   | _ => False)
 | .panic x, ad => Q (.panic x) ρ ad
theorem aS.Lx (h : aS g U w) {o : Nat} {L : ey} {p : Place} (ho : U.loop o = some L) (hp : g.place o = some p) (x : Loop) :
 aS g (U.del o) { w with heap := w.heap.setIfInBounds p.aB (.loop x) } := by
 obtain ⟨p', k1, k2, fn, tmps, defers, k3, _⟩ := h.live o _ (St.jA.1 ho)
 rw [hp] at k1; cases k1
 refine (h.weaken (St.pe U o)).change p.aB k2 (Gh.Le.refl g) rfl rfl ⟨rfl, rfl, rfl, by simp⟩ (fun k hk _ => Array.getElem?_setIfInBounds_ne (Ne.symm hk)) (fun _ _ _ => rfl) (fun _ _ => rfl) (fun q u hu => ?_) (fun es c hr => ?_) (fun b' x' p' h1 h2 e => ?_) (h.pN (St.jA.1 ho) hp)
 · have := (h.bI _ _ _ hu).1; simp [World.cell?, k3] at this
 · have := (h.bo _ _ _ hr).1; rw [k3] at this; cases this
 · simp only [St.del] at h1
   split at h1
   · cases h1
   · rename_i ne; exact ne (h.apart _ _ _ _ _ _ h1 (St.jA.1 ho) h2 hp e)
theorem aS.nK (h : aS g U w) {o : Nat} {L L' : ey} {p : Place} (ho : U.loop o = some L) (hp : g.place o = some p) {fn : FuncId} {tmps : Array Value} {defers : Nat}
 (hn : tmps.size = L'.nt) (hr : ∀ t, ao g (L'.ρ t) (tmps.getD t undef)) :
 aS g (U.set o (.loop L')) { w with heap := w.heap.setIfInBounds p.aB (.loop { state := L'.state, pending := L'.ee, fn, tmps, params := L'.params, assign := L'.assign, body := L'.body, defers }) } := by
 obtain ⟨p', k1, k2, NH, Bb, vo, k3, _⟩ := h.live o _ (St.jA.1 ho)
 rw [hp] at k1; cases k1
 have aK := (gV.1 k3).1
 refine h.rewrite (St.jA.1 ho) hp ⟨rfl, rfl, rfl, by simp⟩ (fun k hk _ => Array.getElem?_setIfInBounds_ne (Ne.symm hk)) (fun q => ?_) ?_ ⟨fn, tmps, defers, by simp [aK], hn, hr⟩
 · cases e : g.bI p.aB q with
   | none => rfl
   | some u => have := (h.bI _ _ _ e).1; simp [World.cell?, k3] at this
 · cases e : g.bo p.aB with
   | none => rfl
   | some u => have := (h.bo _ _ _ e).1; rw [k3] at this; cases this
theorem aY.rangeFunc (tag : Nat) {f : Operand} {ps : Array Tmp} {assign body : Code} {gu : FuncId} {first cap : List AV} (hf : ρ.ev C f = .func (.func gu) first cap) (pn : dj C.P gu = true)
 (h : ∀ o, U.cB o -> ae C gu (first ++ [.oy o] ++ cap) (U.new o (.loop ⟨ρ.get, nt, ps, assign, body, .ready, none, tag⟩)) (Td o Q ρ)) : aY C nt .fn (.rangeFunc f ps assign body) Q ρ U := by
 intro g w a fr hs hG hr hn tD
 cases fr with
 | some l => exact tD.elim
 | none =>
 have R2 := ph hG hr f
 rw [hf] at R2
 simp only [ao] at R2
 obtain ⟨fs, cs, hval, HX, pk⟩ := R2
 refine wpIn_rangeFunc fun fn _ => ?_
 obtain ⟨B2, tF⟩ := hs.PO
 have hrE := hr.mono B2
 obtain ⟨o, g2, f1, f2, f3, f4⟩ := tF.pF (.loop { state := .ready, pending := none, fn := fn, tmps := a.tmps, params := ps, assign, body, defers := w.heap.size }) 0 0 (.loop ⟨ρ.get, nt, ps, assign, body, .ready, none, tag⟩)
  fun g' hle _ _ => ⟨fn, a.tmps, w.heap.size, heap_alloc_new _ _, hn, fun t => (hrE t).mono hle⟩
 have pt := B2.trans f2
 obtain ⟨BH, hfn, hnb, WV⟩ : ∃ BH, C.P.funcs[gu]? = some BH /\ BH.body.isNone = false /\ (BH.name == "runtime.NumGoroutine") = false := by
  unfold dj at pn
  split at pn
  · rename_i BH hfn
    simp only [bM, Bool.not_eq_true'] at pn
    exact ⟨BH, hfn, by cases hb : BH.body <;> simp_all, pn.2⟩
  · cases pn
 refine ⟨w.heap.size + 1, [{ target := .collected w.heap.size, args := #[] }], ((w.alloc (.deferred (some []))).alloc (.loop { state := .ready, pending := none, fn := fn, tmps := a.tmps, params := ps, assign, body, defers := w.heap.size })),
  { target := .fn (.func gu) cs.toArray, args := fs.toArray ++ #[.func (.yield (w.heap.size + 1)) #[] #[]] }, ((w.alloc (.deferred (some []))).alloc (.loop { state := .ready, pending := none, fn := fn, tmps := a.tmps, params := ps, assign, body, defers := w.heap.size })), gu, (fs.toArray ++ #[.func (.yield (w.heap.size + 1)) #[] #[]]) ++ cs.toArray, ((w.alloc (.deferred (some []))).alloc (.loop { state := .ready, pending := none, fn := fn, tmps := a.tmps, params := ps, assign, body, defers := w.heap.size })), ?_, ?_, fun _ _ => trivial, ?_, fun hd => by simp [FW, Fence.wide] at hd, ?_⟩
 · simp only [Instr.enterLoop, FW, bC, run_newObj, bT, bQ]
   rw [Array.size_push]
   rfl
 · simp only [resolve, rangeCall, List.map_toArray, dN, ke]
   rw [hval]
   simp only [Deferred.ofValue, bT]
   rfl
 · simp only [invoke, callFunc, bC, bT, bQ, run_program, hfn, WV, hnb, bu, if_false, dE]
 · have hc := h o f1 g2 _ (fs ++ [Value.func (.yield (w.heap.size + 1)) #[] #[]] ++ cs) f4 (hG.mono pt) (((HX.mono pt).append (by
    simp only [ax]
    exact ⟨_, _, rfl, by simp only [ao]; exact ⟨_, f3, by simp⟩, rfl⟩)).append (pk.mono pt))
   have e : (fs ++ [Value.func (.yield (w.heap.size + 1)) #[] #[]] ++ cs).toArray = fs.toArray ++ #[Value.func (.yield (w.heap.size + 1)) #[] #[]] ++ cs.toArray := by simp
   rw [e] at hc
   have Em : CallsIn (FW none) 0 C.P gu _ _ _ := hc
   refine Em.mono ?_
   rintro e w3 hp
   have H4 : ∀ g3, Gh.Le g2 g3 -> kV false g g3 [w.heap.size] := fun g3 hl => ⟨fun h => (by cases h), by simp, fun r hr => by
    simp only [kM] at hr; subst hr
    exact ⟨hl.res _ (f2.res _ (by simp)), hs.zt (cG _)⟩⟩
   cases e with
   | returned v =>
     obtain ⟨g3, c7, x, h1, h2, h3, L, h4, h5, h6⟩ := hp
     obtain ⟨p, q1, q2, NH, Bb, vo, q3, q4, q5⟩ := h2.live o _ (St.jA.1 h4)
     have mM : g3.place o = some ⟨w.heap.size + 1, 0, 0⟩ := h1.place _ _ (by rw [f3]; simp)
     rw [mM] at q1; cases q1
     have ur : (getObj (w.heap.size + 1)).run C.P w3 = .ok (.loop { state := L.state, pending := L.ee, fn := NH, tmps := Bb, params := L.params, assign := L.assign, body := L.body, defers := vo }) w3 := by simp [getObj, Sem.run, q3]
     have H6 : ∀ x, (setObj (w.heap.size + 1) x).run C.P w3 = .ok () { w3 with heap := w3.heap.setIfInBounds (w.heap.size + 1) x } := fun x => by simp [setObj, Sem.run, q3]
     have Vo : (L.state == LoopState.busy) = false := by
      cases hL : L.state <;> first
       | rfl
       | exact absurd hL h5
     have BX : (Instr.endLoop (w.heap.size + 1)).run C.P w3 = .ok L.ee { w3 with heap := w3.heap.setIfInBounds (w.heap.size + 1) (.loop { state := .exhausted, pending := L.ee, fn := NH, tmps := Bb, params := L.params, assign := L.assign, body := L.body, defers := vo }) } := by
      simp only [Instr.endLoop, Instr.getLoop, bC, ur, bQ, bT, Vo, bu, if_false, dE, H6]
     have Sx := h2.Lx h4 mM { state := .exhausted, pending := L.ee, fn := NH, tmps := Bb, params := L.params, assign := L.assign, body := L.body, defers := vo }
     have post : ∀ ex, BF g3 Q ρ (c7.del o) ex -> mX g nt false a.defers Q ex { a with defers := [{ target := .collected w.heap.size, args := #[] }] ++ a.defers } _ := fun ex hq =>
      ⟨hn, g3, c7.del o, ρ, [w.heap.size], rfl, H4 g3 h1, pt.trans h1, Sx, hr.mono (pt.trans h1), hq⟩
     refine ⟨L.ee, _, BX, ?_⟩
     generalize L.ee = ee at h6 post ⊢
     cases ee with
     | none => exact post .normal h6
     | some c =>
       cases c <;> first
        | exact h6.elim
        | exact wpIn_exit (post (.exit _) h6)
        | exact wpIn_ret (post .ret h6)
   | panicked ch =>
     obtain ⟨g3, c7, x, v, rfl, h1, h2, h3, h4⟩ := hp
     exact ⟨hn, g3, c7, ρ, [w.heap.size], rfl, H4 g3 h1, pt.trans h1, h2, hr.mono (pt.trans h1), x, v, rfl, h3, h4⟩
   | outgrown => exact hp.elim
def sR (ρ : Nat -> AV) : List Tmp -> List AV -> Nat -> AV
 | t :: ts, v :: vs => sR (fun x => if x = t then v else ρ x) ts vs
 | _, _ => ρ
theorem CT {ρ : Nat -> AV} {tmps : Array Value} : ∀ (ps : List Tmp) (args : List AV) (vs : List Value) (ρ : Nat -> AV) (tmps : Array Value), (∀ t, ao g (ρ t) (tmps.getD t undef)) -> (∀ t ∈ ps, t < tmps.size) -> ax g args vs ->
 ((ps.zip vs).foldl (fun (tmps : Array Value) (p : Tmp × Value) => tmps.setIfInBounds p.1 p.2) tmps).size = tmps.size /\ ∀ t, ao g (sR ρ ps args t) (((ps.zip vs).foldl (fun (tmps : Array Value) (p : Tmp × Value) => tmps.setIfInBounds p.1 p.2) tmps).getD t undef)
 | [], args, vs, ρ, tmps, h, _, _ => by simpa [sR] using h
 | t :: ts, [], vs, ρ, tmps, h, _, ha => by
   simp only [ax] at ha; subst ha
   simpa [sR] using h
 | t :: ts, x :: args, vs, ρ, tmps, h, hl, ha => by
   simp only [ax] at ha
   obtain ⟨v, vs, rfl, hx, ha⟩ := ha
   simp only [List.zip_cons_cons, List.foldl_cons, sR]
   have h1 : ∀ t', ao g ((fun y => if y = t then x else ρ y) t') ((tmps.setIfInBounds t v).getD t' undef) := (eE.put (g := g) (ρ := ⟨ρ⟩) h (hl t (by simp)) hx)
   obtain ⟨h2, h3⟩ := CT (ρ := ρ) (tmps := tmps) ts args vs _ (tmps.setIfInBounds t v) h1 (fun t' pz => by simpa using hl t' (by simp [pz])) ha
   exact ⟨by rw [h2]; simp, h3⟩
def Tf (o : Nat) (R : cu -> St -> Prop) : Ex -> Env -> St -> Prop
 | .normal, _, U => ∃ L, U.loop o = some L /\ R (.ret (.bool true)) (U.set o (.loop { L with state := .ready, ee := none }))
 | .ret, _, U => ∃ L, U.loop o = some L /\ R (.ret (.bool false)) (U.set o (.loop { L with state := .done, ee := some .ret }))
 | .exit id, _, U => ∃ L, U.loop o = some L /\ R (.ret (.bool false)) (U.set o (.loop { L with state := .done, ee := some (.exit id) }))
 | .panic _, _, _ => False
def Pk (C : bX) (o : Nat) (body : Code) (nt : Nat) (R : cu -> St -> Prop) : Ex -> Env -> St -> Prop
 | .normal, ρ, U => ∃ L, U.loop o = some L /\ L.state = .ready /\ aY C nt (.round o) body (Tf o R) ρ (U.set o (.loop { L with state := .busy }))
 | _, _, _ => False
theorem iY.CM {o : Nat} {args : List AV} {R : cu -> St -> Prop} {L : ey} (hL : U.loop o = some L) (hargs : args.length = L.params.size) (N2 : ∀ t ∈ L.params.toList, t < L.nt)
 (h : aY C L.nt (.round o) L.assign (Pk C o L.body L.nt R) ⟨sR L.ρ L.params.toList args⟩ U) : iY C o args U R := by
 intro g w vs x hs hG ha hx
 obtain ⟨p, k1, k2, fn, tmps, defers, k3, k4, k5⟩ := hs.live o _ (St.jA.1 hL)
 rw [hx] at k1; cases k1
 have ur : (getObj x.aB).run C.P w = .ok (.loop { state := L.state, pending := L.ee, fn, tmps, params := L.params, assign := L.assign, body := L.body, defers }) w := by simp [getObj, Sem.run, k3]
 have da : vs.length = L.params.size := by rw [ha.length, hargs]
 obtain ⟨z1, z2⟩ := CT (g := g) (ρ := L.ρ) (tmps := tmps) L.params.toList args vs L.ρ tmps k5 (fun t ht => by rw [k4]; exact N2 t ht) ha
 have Vg : (L.params.zip vs.toArray).foldl (fun (tmps : Array Value) (p : Tmp × Value) => tmps.setIfInBounds p.1 p.2) tmps = (L.params.toList.zip vs).foldl (fun (tmps : Array Value) (p : Tmp × Value) => tmps.setIfInBounds p.1 p.2) tmps := by
  rw [<- Array.foldl_toList]; congr 1; simp
 refine ⟨fn, (L.params.toList.zip vs).foldl (fun (tmps : Array Value) (p : Tmp × Value) => tmps.setIfInBounds p.1 p.2) tmps, L.assign, L.body, ?_, ?_⟩
 · simp only [Instr.yield, Instr.getLoop, bC, ur, bQ, bT, List.size_toArray, da, ne_eq, not_true_eq_false, if_false, dE]
   rw [<- Vg]
 · refine roundIn_of_wpIn trivial ?_
   have h1 := h g w { tmps := (L.params.toList.zip vs).foldl (fun (tmps : Array Value) (p : Tmp × Value) => tmps.setIfInBounds p.1 p.2) tmps, defers := [] } (some x.aB) hs hG z2 (by rw [<- k4]; exact z1) ⟨x, hx, rfl⟩
   have BP : L.assign.wpIn (Fence.wide.inRound x.aB) 0 C.P _ _ _ := h1
   refine wpIn_mono BP ?_
   rintro e a1 w1 ⟨q1, g1, bH, XJ, ms, q2, q3, q4, q5, q6, q7⟩
   cases e with
   | normal =>
     obtain ⟨L1, r1, r2, r3⟩ := q7
     obtain ⟨p, k1, k2, fn, tmps, defers, k3, k4, k5⟩ := q5.live o _ (St.jA.1 r1)
     rw [q4.place _ _ hx] at k1; cases k1
     have ur : (getObj x.aB).run C.P w1 = .ok (.loop { state := L1.state, pending := L1.ee, fn, tmps, params := L1.params, assign := L1.assign, body := L1.body, defers }) w1 := by simp [getObj, Sem.run, k3]
     have H6 : ∀ y, (setObj x.aB y).run C.P w1 = .ok () { w1 with heap := w1.heap.setIfInBounds x.aB y } := fun y => by simp [setObj, Sem.run, k3]
     have wc := q5.nK (L' := { L1 with state := .busy }) (fn := fn) (defers := defers) r1 (q4.place _ _ hx) k4 k5
     refine ⟨_, by simp only [Instr.beginRound, Instr.getLoop, bC, ur, bQ, bT, H6, r2]; rfl, ?_⟩
     have h2 := r3 g1 _ a1 (some x.aB) wc (hG.mono q4) q6 q1 ⟨x, q4.place _ _ hx, rfl⟩
     have ZA : L.body.wpIn (Fence.wide.inRound x.aB) 0 C.P _ _ _ := h2
     refine wpIn_mono ZA ?_
     rintro e a2 w2 ⟨Om, g2, bJ, nq, CH, S7, q3', Xq, Xr, q6', E0⟩
     have hx2 := (q4.trans Xq).place _ _ hx
     have fin : ∀ (L2 : ey) (jump : Option Code) (st : LoopState), bJ.loop o = some L2 -> (if jump.isNone then LoopState.ready else .done) = st -> R (.ret (.bool jump.isNone)) (bJ.set o (.loop { L2 with state := st, ee := jump })) ->
      ∃ v w', (Instr.endRound x.aB jump).run C.P w2 = .ok v w' /\ lh g R (.returned v) w' := fun L2 jump st hl eL hR => by
      obtain ⟨p, k1, k2, fn, tmps, defers, k3, k4, k5⟩ := Xr.live o _ (St.jA.1 hl)
      rw [hx2] at k1; cases k1
      have ur : (getObj x.aB).run C.P w2 = .ok (.loop { state := L2.state, pending := L2.ee, fn, tmps, params := L2.params, assign := L2.assign, body := L2.body, defers }) w2 := by simp [getObj, Sem.run, k3]
      have H6 : ∀ y, (setObj x.aB y).run C.P w2 = .ok () { w2 with heap := w2.heap.setIfInBounds x.aB y } := fun y => by simp [setObj, Sem.run, k3]
      have Sx := Xr.nK (L' := { L2 with state := st, ee := jump }) (fn := fn) (defers := defers) hl hx2 k4 k5
      refine ⟨.bool jump.isNone, _, by simp only [Instr.endRound, Instr.getLoop, bC, ur, bQ, bT, H6, eL], g2, _, .bool jump.isNone, q4.trans Xq, Sx, by simp only [ao], hR⟩
     cases e with
     | normal => obtain ⟨L2, hl, hR⟩ := E0; exact fin L2 none .ready hl rfl hR
     | ret => obtain ⟨L2, hl, hR⟩ := E0; exact fin L2 (some .ret) .done hl rfl hR
     | exit id => obtain ⟨L2, hl, hR⟩ := E0; exact fin L2 (some (.exit id)) .done hl rfl hR
     | panic ch => obtain ⟨x, v, _, _, hf⟩ := E0; exact hf.elim
     | goto l => exact E0.elim
     | outgrown => exact E0.elim
   | panic ch => obtain ⟨x, v, _, _, hf⟩ := q7; exact hf.elim
   | ret => exact q7.elim
   | exit id => exact q7.elim
   | goto l => exact q7.elim
   | outgrown => exact q7.elim
end
end Go.Rip
namespace Go.Rip
open Go.RowKit
section
variable {C : bX} {g : Gh} {U ad : St} {w : World} {nt : Nat} {nm : Bool} {ro : Ro} {fr : Option Nat} {Q : Ex -> Env -> St -> Prop} {ρ cT : Env} {mu : Bool}
theorem pE {l : List Operand} (h : ∀ x ∈ l, ρ.ev C x = cT.ev C x) : l.map (ρ.ev C) = l.map (cT.ev C) := List.map_congr_left h
theorem tu {parts : Array (Nat × Operand)} (h : ∀ x ∈ (parts.toList.map (·.2)).toArray, ρ.ev C x = cT.ev C x) : jb C ρ parts = jb C cT parts := by
 unfold jb
 apply List.map_congr_left
 intro p hp
 rw [h p.2 (by simp; exact ⟨p.1, by simpa using hp⟩)]
theorem IV (o : Op) (h : ∀ x ∈ o.operands, ρ.ev C x = cT.ev C x) : gh C mu o ρ U = gh C mu o cT U := by
 cases o with
 | call c =>
   obtain ⟨callee, ⟨args⟩, ⟨OX⟩⟩ := c
   simp only [gh, vj]
   have ha : args.map (ρ.ev C) = args.map (cT.ev C) := pE fun x hx => h x (by simp only [Op.operands, Call.operands]; rw [Array.mem_append]; exact .inr (by simpa using hx))
   cases callee with
   | value f =>
     show fo C.P (ρ.ev C f) (args.map (ρ.ev C)) = fo C.P (cT.ev C f) (args.map (cT.ev C))
     rw [ha, h f (by simp [Op.operands, Call.operands])]
   | invoke r m => rfl
   | builtin b =>
     have hm : ∀ x ∈ args, ρ.ev C x = cT.ev C x := fun x hx => h x (by simp only [Op.operands, Call.operands]; rw [Array.mem_append]; exact .inr (by simpa using hx))
     split <;> simp_all
 | build t parts => simp only [gh]; rw [tu h]
 | buildSlice t n parts => simp only [gh]; rw [tu h]
 | makeFunc fn first cap =>
   simp only [gh]
   rw [pE (l := first.toList) fun x hx => h x (by simp [Op.operands]; exact .inl (by simpa using hx)), pE (l := cap.toList) fun x hx => h x (by simp [Op.operands]; exact .inr (by simpa using hx))]
 | slice t x lo hi m =>
   cases m with
   | some _ => rfl
   | none =>
     simp only [gh]
     have h1 := h x (by simp [Op.operands])
     have h2 : lo.map (ρ.ev C) = lo.map (cT.ev C) := by
      cases lo with
      | none => rfl
      | some y => simp only [Option.map_some]; rw [h y (by simp [Op.operands])]
     have h3 : hi.map (ρ.ev C) = hi.map (cT.ev C) := by
      cases hi with
      | none => rfl
      | some y => simp only [Option.map_some]; rw [h y (by simp [Op.operands])]
     rw [h1, h2, h3]
 | makeMap t r => cases r <;> rfl
 | next i b => cases b <;> simp_all [gh, Op.operands]
 | _ => simp_all [gh, Op.operands]
def bV : AV -> List Nat
 | .box b _ => [b]
 | .ms b _ _ _ _ => [b]
 | .mp m => [m]
 | .it o => [o]
 | .vec _ (.own τ) _ => [τ]
 | _ => []
theorem Pp {b : Nat} (h : ad.live b = U.live b) : ad.box b = U.box b := by simp only [St.box, h]
theorem Dz {p : AV} (h : ∀ b ∈ bV p, ad.live b = U.live b) : ja ad p = ja U p := by
 cases p <;> simp only [ja]
 rw [Pp (h _ (by simp [bV]))]
def quiet : Op -> Bool
 | .move _ | .assign _ | .pick .. | .load .. | .build .. | .buildSlice .. | .fieldAddr .. | .field .. | .indexAddr .. | .index .. | .binOp .. | .unOp .. | .convert .. | .nilCheck _ | .lookup .. | .extract .. | .makeInterface .. | .makeFunc ..
 | .slice .. => true
 | .call c => match c.callee with
   | .value _ => true
   | .builtin .len | .builtin .min | .builtin .max => true
   | _ => false
 | _ => false
def lj : Op -> Bool
 | .load .. | .lookup .. => true
 | _ => false
theorem P2 (o : Op) (hq : quiet o = true) (h : lj o = true -> ∀ x ∈ o.operands, ∀ b ∈ bV (ρ.ev C x), ad.live b = U.live b) : gh C mu o ρ ad = gh C mu o ρ U := by
 cases o with
 | call c =>
   obtain ⟨callee, ⟨args⟩, ⟨OX⟩⟩ := c
   simp only [gh, vj]
   cases callee with
   | value f => rfl
   | invoke r m => rfl
   | builtin b =>
     cases b <;> simp only [quiet, bu] at hq
     all_goals (split <;> first
      | rfl
      | (simp only [CC]; done)
      | contradiction
      | simp_all)
 | load t a =>
   simp only [gh, qk]
   rw [Dz (h rfl a (by simp [Op.operands]))]
 | lookup t m k ok =>
   have := h rfl m (by simp [Op.operands])
   simp only [gh, rM]
   generalize ρ.ev C m = y at this ⊢
   cases y <;> simp_all [bV, St.mp, ju]
 | slice t x lo hi m => cases m <;> rfl
 | _ => first | rfl | simp [quiet] at hq
theorem aA.wp_mono {K K' : AV -> St -> Prop} {Kp : AV -> St -> Prop} (hk : ∀ v U, K v U -> K' v U) : ∀ (r : aA) {U : St}, r.wp C U K Kp -> r.wp C U K' Kp
 | .val _, _, h => hk _ _ h
 | .iN _ _ _, _, h => hk _ _ h
 | .new _ _ _, _, h => fun b hb => hk _ _ (h b hb)
 | .il _ _, _, h => fun p hp => hk _ _ (h p hp)
 | .enter _ _, _, h => ae.mono h fun r U hr => by cases r <;> first | exact hk _ _ hr | exact hr
 | .yield _ _, _, h => iY.mono h fun r U hr => by cases r <;> first | exact hk _ _ hr | exact hr
 | .panic _, _, h => h
 | @aA.cond _ _ r, _, h => ⟨h.1, aA.wp_mono hk r h.2⟩
 | .bad, _, h => h
theorem Eh {x : Operand} {dst : Option Tmp} {v : AV} (h : ∀ d, dst = some d -> x ≠ .tmp d) : (ρ.dk dst v).ev C x = ρ.ev C x := by
 cases dst with
 | none => rfl
 | some d =>
   cases x <;> simp only [Env.dk, Env.put, Env.ev]
   rename_i t
   rw [if_neg (fun e => h d rfl (by rw [e]))]
theorem EX (ops : Array Oper) (o : Oper) {dst : Option Tmp} {v : AV} (h : ∀ d, dst = some d -> d ∉ o.looksAt ops) : gh C mu o.op (ρ.dk dst v) U = gh C mu o.op ρ U :=
 IV o.op fun x hx => Eh fun d hd SD => h d hd (by
  subst SD
  exact List.mem_append_left _ (List.mem_filterMap.2 ⟨.tmp d, by simpa using hx, rfl⟩))
theorem zU (ops : Array Oper) (o : Oper) {dst : Option Tmp} {v : AV} (h : ∀ d, dst = some d -> d ∉ o.looksAt ops) : eV ops (ρ.dk dst v) o.guard = eV ops ρ o.guard := by
 cases dst with
 | none => rfl
 | some d =>
   have hd := h d rfl
   unfold eV
   cases hg : o.guard with
   | none => rfl
   | some jw =>
     obtain ⟨j, want⟩ := jw
     simp only
     cases hb : (ops[j]?).bind (·.dst) with
     | none => rfl
     | some t =>
       have bW : t ≠ d := fun e => by
        subst e
        apply hd
        unfold Oper.looksAt
        rw [hg]
        simp only [hb, Option.toList_some, eH, kM, or_true]
       simp only [Env.dk, Env.put, if_neg bW]
theorem I6 {d d' : Option Tmp} {v v' : AV} (h : ∀ t, d = some t -> d' ≠ some t) : (ρ.dk d v).dk d' v' = (ρ.dk d' v').dk d v := by
 cases d <;> cases d' <;> simp only [Env.dk]
 rename_i a b
 have bW : b ≠ a := fun e => h a rfl (by rw [e])
 simp only [Env.put, Env.mk.injEq]
 funext t
 by_cases h1 : t = b
 · subst h1; rw [if_pos rfl, if_neg bW, if_pos rfl]
 · rw [if_neg h1]
   by_cases h2 : t = a
   · rw [if_pos h2, if_pos h2]
   · rw [if_neg h2, if_neg h2, if_neg h1]
def lA (mu : List Nat) (o : Oper) : Bool := match o.dst with | some d => mu.contains d | none => false
def ix (C : bX) (mu : List Nat) (ops : Array Oper) (I : St -> Prop) (i : Nat) (K : Env -> St -> Prop) (Kp : AV -> St -> Prop) (ρ : Env) (U : St) : Prop :=
 match ops[i]? with
 | none => K ρ U
 | some o => az (eV ops ρ o.guard) ((gh C (lA mu o) o.op ρ U).wp C U (fun v ad => I ad /\ K (ρ.dk o.dst v) ad) Kp) (K (ρ.dk o.dst (.aN [])) U)
def Ok (o : Oper) (k : Nat) : Bool := o.after.toList.any fun e => Region.binds .any e && Nat.beq e.on k
def ik (ops : Array Oper) (i : Nat) : Bool := match ops[i]? with
 | some o => (List.range ops.size).all fun k => Nat.beq k i || (Ok o k || o.after.toList.any fun e => Region.binds .any e && (match ops[e.on]? with | some m => Ok m k | none => false))
 | none => false
def Dn (ops : Array Oper) (listed : Array Bool) : Prop := ∀ m o, ops[m]? = some o -> listed.getD m false = true -> ∀ e ∈ o.after, Region.binds .any e = true -> listed.getD e.on false = true
theorem CO {o : Oper} {k : Nat} (h : Ok o k = true) : ∃ e ∈ o.after, Region.binds .any e = true /\ e.on = k := by
 unfold Ok at h
 rw [List.any_eq_true] at h
 obtain ⟨e, he, hb⟩ := h
 simp only [bM] at hb
 exact ⟨e, by simpa using he, hb.1, dG hb.2⟩
theorem tS {ops : Array Oper} {i : Nat} {listed : Array Bool} (hD : Dn ops listed) (hr : i ∈ Region.ready .any ops listed) (h : ik ops i = true) (k : Nat) (hk : k < ops.size) (bW : k ≠ i) : listed.getD k false = true := by
 obtain ⟨_, o, ho, bK⟩ := mem_ready.1 hr
 unfold ik at h
 rw [ho] at h
 simp only [eh, List.mem_range, hZ] at h
 rcases h k hk with h | h | h
 · exact absurd (dG h) bW
 · obtain ⟨e, he, hb, xW⟩ := CO h
   rw [<- xW]; exact bK e he hb
 · rw [List.any_eq_true] at h
   obtain ⟨e, he, hb⟩ := h
   rw [bM] at hb
   have h1 := bK e (by simpa using he) hb.1
   have h2 := hb.2
   split at h2
   · rename_i m hm
     obtain ⟨e', iL, cZ, Yg⟩ := CO h2
     rw [<- Yg]; exact hD _ m hm h1 e' iL cZ
   · cases h2
theorem Dn.set {ops : Array Oper} {listed : Array Bool} (hD : Dn ops listed) {i : Nat} (hr : i ∈ Region.ready .any ops listed) : Dn ops (listed.setIfInBounds i true) := by
 intro m o ho hl e he hb
 obtain ⟨_, oi, NZ, bK⟩ := mem_ready.1 hr
 by_cases WS : i = m
 · subst WS
   rw [NZ] at ho; cases ho
   exact getD_set_true (bK e he hb)
 · rw [getD_set_ne false WS] at hl
   exact getD_set_true (hD m o ho hl e he hb)
theorem Dn.none (ops : Array Oper) (n : Nat) : Dn ops (Array.replicate n false) := by
 intro m o ho hl
 rw [Array.getD_eq_getD_getElem?, Array.getElem?_replicate] at hl
 split at hl <;> simp at hl
def Ix (ops : Array Oper) (I : St -> Prop) (i : Nat) (U : St) : Prop := ik ops i = true \/ I U
def iZ (C : bX) (mu : List Nat) (ops : Array Oper) (I : St -> Prop) (K : Env -> St -> Prop) (Kp : AV -> St -> Prop) : Nat -> Array Bool -> Env -> St -> Prop
 | 0, listed, ρ, U => Region.ready .any ops listed = [] /\ K ρ U
 | n + 1, listed, ρ, U => (Region.ready .any ops listed = [] -> K ρ U) /\ ∀ i ∈ Region.ready .any ops listed, ix C mu ops (Ix ops I i) i (iZ C mu ops I K Kp n (listed.setIfInBounds i true)) Kp ρ U
theorem Fk {mu : List Nat} {ops : Array Oper} {I : St -> Prop} (ca : iu nt ops = true) (g0 : Gh) : ∀ (fuel t : Nat) (listed : Array Bool) (g : Gh) (U : St) (w : World) (ρ : Env) (a : Act) (ds : List Deferred), Gh.Le g0 g -> aS g U w -> ff C g -> eE g ρ a.tmps -> a.tmps.size = nt -> a.defers = ds ->
 iZ C mu ops I (KQ Q) (tt Q) fuel listed ρ U -> wpOpsIn (FW fr) 0 C.P ops (mX g0 nt nm ds Q) (Region.linearise.go .any ops fuel t listed []) a w := by
 intro fuel
 induction fuel with
 | zero =>
   intro t listed g U w ρ a ds h0 hs hG hr hn hd h
   simp only [Region.linearise.go, List.reverse_nil, wpOpsIn]
   exact ⟨hn, g, U, ρ, [], by simpa using hd, iE _ _ _, h0, hs, hr, h.2⟩
 | succ fuel ih =>
   intro t listed g U w ρ a ds h0 hs hG hr hn hd h
   obtain ⟨h1, h2⟩ := h
   simp only [Region.linearise.go]
   change wpOpsIn (FW fr) 0 C.P ops (mX g0 nt nm ds Q) (match (Region.ready .any ops listed)[t % (Region.ready .any ops listed).length]? with
    | some i => Region.linearise.go .any ops fuel (t / (Region.ready .any ops listed).length) (listed.setIfInBounds i true) [i]
    | none => [].reverse) a w
   cases hi : (Region.ready .any ops listed)[t % (Region.ready .any ops listed).length]? with
   | none =>
     have ze : Region.ready .any ops listed = [] := by
      cases hr : Region.ready .any ops listed with
      | nil => rfl
      | cons x xs =>
        rw [hr] at hi
        have aK : t % (x :: xs).length < (x :: xs).length := Nat.mod_lt _ (by simp)
        simp at hi
        simp at aK
        omega
     simp only [List.reverse_nil, wpOpsIn]
     exact ⟨hn, g, U, ρ, [], by simpa using hd, iE _ _ _, h0, hs, hr, h1 ze⟩
   | some i =>
     dsimp only
     rw [linearise_go_acc, List.reverse_singleton, List.singleton_append]
     simp only [wpOpsIn]
     have eL := h2 i (fS hi)
     unfold ix at eL
     cases ho : ops[i]? with
     | none =>
       rw [ho] at eL
       exact ih _ _ g U w ρ a ds h0 hs hG hr hn hd eL
     | some o =>
       rw [ho] at eL
       dsimp only at eL ⊢
       have jx : o ∈ ops.toList := fS (l := ops.toList) (i := i) (a := o) (by rw [gX]; exact ho)
       have Ca : xd nt o = true := by
        unfold iu at ca
        rw [eh] at ca
        exact ca o jx
       have LW : ∀ d, o.dst = some d -> d < a.tmps.size := fun d tB => by
        simp only [xd, tB, bM, dD] at Ca
        rw [hn]; exact Ca.1
       have go : ∀ g' ad w' x v, Gh.Le g g' -> aS g' ad w' -> ao g' x v -> iZ C mu ops I (KQ Q) (tt Q) fuel (listed.setIfInBounds i true) (ρ.dk o.dst x) ad -> wpOpsIn (FW fr) 0 C.P ops (mX g0 nt nm ds Q) (Region.linearise.go .any ops fuel (t / (Region.ready .any ops listed).length) (listed.setIfInBounds i true) []) (a.put o.dst v) w' := fun g' ad w' x v hle dw hx hk =>
        ih _ _ g' ad w' (ρ.dk o.dst x) (a.put o.dst v) ds (h0.trans hle) dw (hG.mono hle) ((hr.mono hle).dk LW hx) (by rw [(kK a o.dst v).2]; exact hn) (by rw [(kK a o.dst v).1]; exact hd) hk
       cases H2 : eV ops ρ o.guard <;> rw [H2] at eL <;> simp only [az] at eL
       rename_i b
       have hw := vU hr H2
       cases b
       · rw [if_neg (by rw [hw]; simp)]
         exact ⟨fun _ _ => trivial, go g U w (.aN []) undef (Gh.Le.refl g) hs qv (eL.2 rfl)⟩
       · rw [if_pos hw]
         refine l9 Ca hs hG hr hn (eL.1 rfl) (fun g' ad w' x v hle dw hx hk => go g' ad w' x v hle dw hx hk.2) ?_ (ds := ds)
         intro g' ad w' x v hle dw hx hk
         exact ⟨hn, g', ad, ρ, [], by simpa using hd, iE _ _ _, h0.trans hle, dw, hr.mono hle, x, v, rfl, hx, hk ρ⟩
theorem aY.uU {id : Nat} {ops : Array Oper} (mu : List Nat) (I : St -> Prop) (hm : C.P.follows .mixedOrders = true) (ca : iu nt ops = true) (h : iZ C mu ops I (KQ Q) (tt Q) ops.size (Array.replicate ops.size false) ρ U) : aY C nt ro (.region id ops true) Q ρ U := by
 intro g w a fr h1 h2 h3 h4 tD
 refine wpIn_region_draw fun t => ?_
 simp only [Region.schedule, hm, Bool.true_or, if_true, Region.linearise]
 have hs := h1.grow (gQ w)
 exact Fk ca g ops.size t _ g U _ ρ a a.defers (Gh.Le.refl g) hs h2 h3 h4 rfl h
def aA.yv (C : bX) : aA -> AV -> Prop
 | .val u, v => u = v
 | @aA.cond p _ r, v => p /\ r.yv C v
 | .enter f args, v => Pure C f args v
 | _, _ => False
theorem aA.Hh {K : AV -> St -> Prop} {Kp : AV -> St -> Prop} : ∀ (r : aA) {v : AV}, r.yv C v -> K v U -> r.wp C U K Kp
 | .val _, _, h, hk => by simp only [aA.yv] at h; subst h; exact hk
 | @aA.cond _ _ r, _, h, hk => ⟨h.1, aA.Hh r h.2 hk⟩
 | .enter _ _, _, h, hk => h U _ hk
 | .iN _ _ _, _, h, _ => h.elim
 | .new _ _ _, _, h, _ => h.elim
 | .il _ _, _, h, _ => h.elim
 | .yield _ _, _, h, _ => h.elim
 | .panic _, _, h, _ => h.elim
 | .bad, _, h, _ => h.elim
def bG (B : List Nat) (ay U : St) : Prop := ∀ b ∈ B, U.live b = ay.live b
def Still (C : bX) (mu : List Nat) (ops : Array Oper) (B : List Nat) (ay : St) (o : Oper) (ρ : Env) (v : AV) : Prop :=
 (eV ops ρ o.guard = .bool true /\ quiet o.op = true /\ (lj o.op = true -> ∀ x ∈ o.op.operands.toList, ∀ b ∈ bV (ρ.ev C x), b ∈ B) /\ (gh C (lA mu o) o.op ρ ay).yv C v) \/ (eV ops ρ o.guard = .bool false /\ v = .aN [])
theorem Still.put {mu : List Nat} {ops : Array Oper} {B : List Nat} {ay : St} {o : Oper} {v : AV} (h : Still C mu ops B ay o ρ v) {dst : Option Tmp} {u : AV} (hd : ∀ d, dst = some d -> d ∉ o.looksAt ops) : Still C mu ops B ay o (ρ.dk dst u) v := by
 unfold Still at h ⊢
 rw [zU ops o hd, EX ops o hd]
 rcases h with ⟨h1, h2, h3, h4⟩ | h
 · refine .inl ⟨h1, h2, fun Cf x hx b hb => h3 Cf x hx b ?_, h4⟩
   rw [Eh fun d tB SD => hd d tB (by
    subst SD
    exact List.mem_append_left _ (List.mem_filterMap.2 ⟨.tmp d, hx, rfl⟩))] at hb
   exact hb
 · exact .inr h
theorem Still.step {mu : List Nat} {ops : Array Oper} {B : List Nat} {ay : St} {o : Oper} {v : AV} {i : Nat} {K : Env -> St -> Prop} {Kp : AV -> St -> Prop} (hi : ops[i]? = some o) (h : Still C mu ops B ay o ρ v) (hI : bG B ay U) {I' : St -> Prop} (xI : I' U) (hk : K (ρ.dk o.dst v) U) :
 ix C mu ops I' i K Kp ρ U := by
 unfold ix
 rw [hi]
 dsimp only
 rcases h with ⟨h1, h2, h3, h4⟩ | ⟨h1, rfl⟩
 · rw [h1]
   refine ⟨fun _ => ?_, fun h => by cases h⟩
   have e := P2 (C := C) (ρ := ρ) (mu := lA mu o) (ad := U) (U := ay) o.op h2 (fun Cf x hx b hb => hI b (h3 Cf x (by simpa using hx) b hb))
   rw [e]
   exact aA.Hh _ h4 ⟨xI, hk⟩
 · rw [h1]
   exact ⟨fun h => (by cases h), fun _ => hk⟩
theorem yr {mu : List Nat} {ops : Array Oper} {I : St -> Prop} {i : Nat} {K K' : Env -> St -> Prop} {Kp : AV -> St -> Prop} (hI : I U) (hk : ∀ ρ U, I U -> K ρ U -> K' ρ U) (h : ix C mu ops I i K Kp ρ U) : ix C mu ops I i K' Kp ρ U := by
 unfold ix at h ⊢
 split
 · rename_i ho; rw [ho] at h; exact hk _ _ hI h
 · rename_i o ho
   rw [ho] at h
   dsimp only at h
   cases hg : eV ops ρ o.guard <;> rw [hg] at h <;> simp only [az] at h ⊢
   exact ⟨fun e => aA.wp_mono (fun v U hv => ⟨hv.1, hk _ _ hv.1 hv.2⟩) _ (h.1 e), fun e => hk _ _ hI (h.2 e)⟩
theorem xu {mu : List Nat} {ops : Array Oper} {B : List Nat} {ay : St} {K : Env -> St -> Prop} {Kp : AV -> St -> Prop} {i : Nat} {oi : Oper} {v : AV} (hi : ops[i]? = some oi) :
 ∀ (fuel : Nat) (listed : Array Bool) (ρ : Env) (U : St),
  (∀ j oj, ops[j]? = some oj -> j ≠ i -> listed.getD j true = false -> (∀ e ∈ oj.after, Region.binds .any e = true -> e.on ≠ i) -> oi.apart ops oj = true) ->
  i ∈ Region.ready .any ops listed -> Dn ops listed -> Still C mu ops B ay oi ρ v -> bG B ay U ->
  iZ C mu ops (bG B ay) K Kp fuel (listed.setIfInBounds i true) (ρ.dk oi.dst v) U -> iZ C mu ops (bG B ay) K Kp (fuel + 1) listed ρ U := by
 intro fuel
 induction fuel with
 | zero =>
   intro listed ρ U _ hr hD hy hI H
   refine ⟨fun h => (by rw [h] at hr; cases hr), fun j hj => ?_⟩
   by_cases rD : j = i
   · subst rD; exact hy.step hi hI (.inr hI) H
   · have := ready_mono hj rD
     rw [H.1] at this
     cases this
 | succ fuel ih =>
   intro listed ρ U A0 hr hD hy hI H
   refine ⟨fun h => (by rw [h] at hr; cases hr), fun j hj => ?_⟩
   by_cases rD : j = i
   · subst rD; exact hy.step hi hI (.inr hI) H
   · have h1 := H.2 j (ready_mono hj rD)
     obtain ⟨Sc, oj, kF, bK⟩ := mem_ready.1 hj
     have L5 : ∀ e ∈ oj.after, Region.binds .any e = true -> e.on ≠ i := fun e he hb heq => by
      have h1 := bK e he hb
      have h0 := (mem_ready.1 hr).1
      rw [heq] at h1
      rcases fT i listed.size with h' | h'
      · simp [h'] at h0 h1; rw [h0] at h1; cases h1
      · simp [sX h'] at h1
     obtain ⟨a1, a2, a3⟩ := Oper.apart_spec (A0 j oj kF rD Sc L5)
     have R5 : ∀ k ok, ops[k]? = some ok -> k ≠ i -> (listed.setIfInBounds j true).getD k true = false ->
      (∀ e ∈ ok.after, Region.binds .any e = true -> e.on ≠ i) -> oi.apart ops ok = true := fun k ok hk Es W4 gd => by
      refine A0 k ok hk Es ?_ gd
      by_cases Sb : j = k
      · subst Sb; exact Sc
      · rw [getD_set_ne true Sb] at W4; exact W4
     have B7 : ¬ ik ops j = true := fun Vm => by
      have h1 := tS hD hj Vm i (gV.1 hi).1 (Ne.symm rD)
      have h0 := (mem_ready.1 hr).1
      rcases fT i listed.size with h' | h'
      · simp [h'] at h0 h1; rw [h0] at h1; cases h1
      · simp [sX h'] at h1
     have next : ∀ (u : AV) (ad : St), bG B ay ad -> iZ C mu ops (bG B ay) K Kp fuel ((listed.setIfInBounds i true).setIfInBounds j true) ((ρ.dk oi.dst v).dk oj.dst u) ad ->
      iZ C mu ops (bG B ay) K Kp (fuel + 1) (listed.setIfInBounds j true) (ρ.dk oj.dst u) ad := fun u ad xI hA => by
      refine ih (listed.setIfInBounds j true) (ρ.dk oj.dst u) ad R5 (ready_mono hr (Ne.symm rD)) (hD.set hj) (hy.put a3) xI ?_
      rw [Array.setIfInBounds_comm _ _ rD, <- I6 (d := oi.dst) (d' := oj.dst) (fun t ht => a2 t ht)]
      exact hA
     unfold ix at h1 ⊢
     rw [kF] at h1 ⊢
     dsimp only at h1 ⊢
     rw [zU ops oj a1, EX ops oj a1] at h1
     cases hg : eV ops ρ oj.guard <;> rw [hg] at h1 <;> simp only [az] at h1 ⊢
     exact ⟨fun e => aA.wp_mono (fun u ad hu => ⟨hu.1, next u ad (hu.1.resolve_left B7) hu.2⟩) _ (h1.1 e), fun e => next _ U hI (h1.2 e)⟩
def fi (ops : Array Oper) : List (Bool × Nat) -> Array Bool -> Bool
 | [], listed => (Region.ready .any ops listed).isEmpty
 | (true, i) :: r, listed => (Region.ready .any ops listed).contains i && Region.free .any ops listed i && fi ops r (listed.setIfInBounds i true)
 | (false, i) :: r, listed => (Region.ready .any ops listed == [i]) && fi ops r (listed.setIfInBounds i true)
def jD (C : bX) (mu : List Nat) (ops : Array Oper) (B : List Nat) (ay : St) (K : Env -> St -> Prop) (Kp : AV -> St -> Prop) : List (Bool × Nat) -> Env -> St -> Prop
 | [], ρ, U => K ρ U
 | (true, i) :: r, ρ, U => ∃ o v, ops[i]? = some o /\ Still C mu ops B ay o ρ v /\ jD C mu ops B ay K Kp r (ρ.dk o.dst v) U
 | (false, i) :: r, ρ, U => ix C mu ops (Ix ops (bG B ay) i) i (jD C mu ops B ay K Kp r) Kp ρ U
theorem Mr {ops : Array Oper} {i : Nat} {listed : Array Bool} (hD : Dn ops listed) (hi : i ∈ Region.ready .any ops listed) (ha : ik ops i = true) : ∀ {r : List (Bool × Nat)}, fi ops r (listed.setIfInBounds i true) = true -> r = []
 | [], _ => rfl
 | (b, k) :: r, h => by
   exfalso
   have hk : k ∈ Region.ready .any ops (listed.setIfInBounds i true) := by
    cases b with
    | true => simp only [fi, bM] at h; simpa using h.1.1
    | false => simp only [fi, bM, beq_iff_eq] at h; rw [h.1]; simp
   obtain ⟨h0, ok, ca, _⟩ := mem_ready.1 hk
   have BY := (mem_ready.1 hi).1
   have bW : k ≠ i := fun e => by
    subst e
    have aK : k < listed.size := by
     rcases fT k listed.size with h | h
     · exact h
     · simp [sX h] at BY
    simp [aK] at h0
   have h1 := tS hD hi ha k (gV.1 ca).1 bW
   rw [getD_set_ne true (Ne.symm bW)] at h0
   rcases fT k listed.size with h' | h'
   · simp [h'] at h0 h1; rw [h0] at h1; cases h1
   · simp [sX h'] at h1
theorem og {mu : List Nat} {ops : Array Oper} {B : List Nat} {ay : St} {K : Env -> St -> Prop} {Kp : AV -> St -> Prop} : ∀ (cM : List (Bool × Nat)) (listed : Array Bool) (ρ : Env) (U : St), fi ops cM listed = true -> Dn ops listed -> (cM = [] \/ bG B ay U) -> jD C mu ops B ay K Kp cM ρ U ->
 iZ C mu ops (bG B ay) K Kp cM.length listed ρ U
 | [], listed, ρ, U, hp, hD, hI, h => ⟨by simpa [fi] using hp, h⟩
 | (true, i) :: r, listed, ρ, U, hp, hD, hI, h => by
   have hI := hI.resolve_left (by simp)
   simp only [fi, bM] at hp
   obtain ⟨o, v, ho, eL, hr⟩ := h
   exact xu ho r.length listed ρ U (Region.free_spec ho hp.1.2) (by simpa using hp.1.1) hD eL hI (og r _ _ U hp.2 (hD.set (by simpa using hp.1.1)) (.inr hI) hr)
 | (false, i) :: r, listed, ρ, U, hp, hD, hI, h => by
   have hS := hI.resolve_left (by simp)
   simp only [fi, bM, beq_iff_eq] at hp
   refine ⟨fun h0 => (by rw [hp.1] at h0; cases h0), fun j hj => ?_⟩
   have zZ := hj
   rw [hp.1, kM] at hj
   subst hj
   exact yr (.inr hS) (fun cT ad xI hr => og r _ cT ad hp.2 (hD.set zZ) (xI.elim (fun ha => .inl (Mr hD zZ ha hp.2)) .inr) hr) h
theorem aY.sZ {id : Nat} {ops : Array Oper} (mu : List Nat) (B : List Nat) (cM : List (Bool × Nat)) (hm : C.P.follows .mixedOrders = true) (ca : iu nt ops = true) (hp : (fi ops cM (Array.replicate ops.size false) && (cM.length == ops.size)) = true)
 (h : jD C mu ops B U (KQ Q) (tt Q) cM ρ U) : aY C nt ro (.region id ops true) Q ρ U := by
 simp only [bM, beq_iff_eq] at hp
 refine aY.uU mu (bG B U) hm ca ?_
 have := og cM _ ρ U hp.1 (Dn.none _ _) (.inr fun _ _ => rfl) h
 rw [hp.2] at this
 exact this
theorem aA.xp {K : AV -> St -> Prop} {Kp tq : AV -> St -> Prop} (hp : ∀ v U, Kp v U -> tq v U) : ∀ (r : aA) {U : St}, r.wp C U K Kp -> r.wp C U K tq
 | .val _, _, h => h
 | .iN _ _ _, _, h => h
 | .new _ _ _, _, h => h
 | .il _ _, _, h => h
 | .enter _ _, _, h => ae.mono h fun r U hr => by cases r <;> first | exact hr | exact hp _ _ hr
 | .yield _ _, _, h => iY.mono h fun r U hr => by cases r <;> first | exact hr | exact hp _ _ hr
 | .panic _, _, h => hp _ _ h
 | @aA.cond _ _ r, _, h => ⟨h.1, aA.xp hp r h.2⟩
 | .bad, _, h => h
theorem gG {mu : List Nat} {ops : Array Oper} {B : List Nat} {ay : St} {K K' : Env -> St -> Prop} {Kp tq : AV -> St -> Prop} (hk : ∀ ρ U, K ρ U -> K' ρ U) (hp : ∀ v U, Kp v U -> tq v U) : ∀ (l : List (Bool × Nat)) {ρ : Env} {U : St}, jD C mu ops B ay K Kp l ρ U -> jD C mu ops B ay K' tq l ρ U
 | [], _, _, h => hk _ _ h
 | (true, i) :: r, ρ, U, h => by
   obtain ⟨o, v, h1, h2, h3⟩ := h
   exact ⟨o, v, h1, h2, gG hk hp r h3⟩
 | (false, i) :: r, ρ, U, h => by
   simp only [jD, ix] at h ⊢
   split
   · rename_i ho; rw [ho] at h; exact gG hk hp r h
   · rename_i o ho
     rw [ho] at h
     dsimp only at h
     cases hg : eV ops ρ o.guard <;> rw [hg] at h <;> simp only [az] at h ⊢
     exact ⟨fun e => aA.wp_mono (fun v U hv => ⟨hv.1, gG hk hp r hv.2⟩) _ (aA.xp hp _ (h.1 e)), fun e => gG hk hp r (h.2 e)⟩
end
end Go.Rip
namespace Go.Rip
open Go.RowKit
def mO (kk : IntKind) (a : Int) (v : AV) (kv : List AV × List AV) : List AV × List AV := eF (.int kk a) v kv.1 kv.2
theorem qg (kk : IntKind) (a b : Int) : ga (.int kk a) (.int kk b) = decide (a < b) := by simp [ga]
def tP (kk : IntKind) (kv : List AV × List AV) : Prop := kv.1.length = kv.2.length /\ ∀ y ∈ kv.1, ∃ n, y = .int kk n
theorem Cs (k v : AV) : ∀ ks vs : List AV, ks.length = vs.length -> (eF k v ks vs).1.length = (eF k v ks vs).2.length
 | [], [], _ => rfl
 | y :: ys, w :: ws, h => by
   simp only [eF]
   split
   · simpa using h
   · simpa using Cs k v ys ws (by simpa using h)
 | [], _ :: _, h => by simp at h
 | _ :: _, [], h => by simp at h
theorem EH {kk : IntKind} {a : Int} {v : AV} {kv : List AV × List AV} (h : tP kk kv) : tP kk (mO kk a v kv) :=
 ⟨Cs _ _ _ _ h.1, fun y hy => by
   rcases sC _ _ y hy with rfl | hy
   · exact ⟨a, rfl⟩
   · exact h.2 y hy⟩
theorem Ai {kk : IntKind} {a b : Int} {v w : AV} (xJ : a ≠ b) : ∀ ks vs : List AV, ks.length = vs.length -> (∀ y ∈ ks, ∃ n, y = .int kk n) ->
 eF (.int kk a) v (eF (.int kk b) w ks vs).1 (eF (.int kk b) w ks vs).2 = eF (.int kk b) w (eF (.int kk a) v ks vs).1 (eF (.int kk a) v ks vs).2
 | [], [], _, _ => by
   simp only [eF, qg]
   by_cases h : a < b
   · have : ¬ b < a := by omega
     simp [h, this]
   · have : b < a := by omega
     simp [h, this]
 | y :: ys, x :: xs, h, hy => by
   obtain ⟨n, rfl⟩ := hy _ (List.mem_cons_self ..)
   have ih := Ai (v := v) (w := w) xJ ys xs (by simpa using h) (fun y hm => hy y (by simp [hm]))
   simp only [eF, qg]
   by_cases h1 : a < n <;> by_cases h2 : b < n <;> by_cases h3 : a < b
   all_goals (have h4 : b < a \/ ¬ b < a := by omega)
   all_goals (rcases h4 with h4 | h4 <;> simp only [h1, h2, h3, h4, cX, dz, if_true, if_false, bu, eF, qg] <;> first | omega | (simp only [ih]; done) | rfl | (simp [eF, qg, h1, h2, h3, h4, ih]; done))
 | [], _ :: _, h, _ => by simp at h
 | _ :: _, [], h, _ => by simp at h
theorem Ij {kk : IntKind} {a b : Int} {v w : AV} (xJ : a ≠ b) {kv : List AV × List AV} (h : tP kk kv) : mO kk a v (mO kk b w kv) = mO kk b w (mO kk a v kv) := Ai xJ kv.1 kv.2 h.1 h.2
structure qC where
 i : Nat
 key : Int
 val : AV
def lM (kk : IntKind) (l : List qC) (kv : List AV × List AV) : List AV × List AV := l.foldl (fun kv x => mO kk x.key x.val kv) kv
theorem uA {kk : IntKind} : ∀ (nG : List qC) (x : qC) (nH : List qC) {kv : List AV × List AV}, tP kk kv -> (∀ y ∈ nG, y.key ≠ x.key) -> lM kk (nG ++ x :: nH) kv = lM kk (nG ++ nH) (mO kk x.key x.val kv)
 | [], x, nH, _, _, _ => rfl
 | y :: nG, x, nH, kv, h, hk => by
   show lM kk (nG ++ x :: nH) (mO kk y.key y.val kv) = lM kk (nG ++ nH) (mO kk y.key y.val (mO kk x.key x.val kv))
   rw [uA nG x nH (EH h) (fun z hz => hk z (by simp [hz])), Ij (hk y (by simp)).symm h]
theorem BG {kk : IntKind} {a : Int} : ∀ (ks : List AV) (i : Nat), (∀ y ∈ ks, ∃ n, y = .int kk n /\ n ≠ a) -> iU .i (.int kk a) ks i = some none
 | [], _, _ => rfl
 | y :: ys, i, h => by
   obtain ⟨n, rfl, hn⟩ := h _ (List.mem_cons_self ..)
   have bW : (a == n) = false := by simpa using Ne.symm hn
   simp only [iU, eR, if_true, bW, bu, if_false]
   exact BG ys (i + 1) fun y hy => h y (by simp [hy])
theorem set_set (U : St) (b : Nat) (x y : Live) : (U.set b x).set b y = U.set b y := by
 simp only [St.set, St.mk.injEq, and_true]; funext q; split <;> rfl
theorem SP (U : St) (b : Nat) (ks vs : List AV) : (U.set b (.mp ks vs)).mp b = some (ks, vs) := by simp [St.mp, St.set]
section
variable {C : bX} {mu : List Nat} {ops : Array Oper} {B : List Nat} {ay : St} {K : Env -> St -> Prop} {Kp : AV -> St -> Prop}
def UE (C : bX) (ops : Array Oper) (ρ : Env) (t : TypeId) (m : Nat) (kk : IntKind) (listed : Array Bool) (x : qC) : Prop := ∃ o v, ops[x.i]? = some o /\ o.op = .insert t (.tmp m) (.const (.int kk x.key)) v /\ o.dst = none /\ o.guard = none /\ ρ.ev C v = x.val /\
 ∀ e ∈ o.after, Region.binds .any e = true -> listed.getD e.on false = true
def Ql (ops : Array Oper) (listed : Array Bool) (l : List qC) : Prop := ∀ j o, ops[j]? = some o -> listed.getD j true = false -> (∃ x ∈ l, x.i = j) \/ ∀ x ∈ l, ∃ e ∈ o.after, Region.binds .any e = true /\ e.on = x.i
theorem PA {t : TypeId} {m : Nat} {kk : IntKind} {e : TypeId} (ht : mU C.P t = some (.i, e)) {id : Nat} {ρ : Env} (hm : ρ.get m = .mp id) (hB : id ∉ B) (mm : Nat) : ∀ (n : Nat) (l : List qC) (listed : Array Bool) (U : St) (kv : List AV × List AV), l.length = n ->
 (∀ x ∈ l, listed.getD x.i true = false) -> Ql ops listed l -> l.Pairwise (fun x y => x.i ≠ y.i /\ x.key ≠ y.key) -> (∀ x ∈ l, UE C ops ρ t m kk listed x) -> bG B ay U -> tP kk kv ->
 (∀ x ∈ l, .int kk x.key ∉ kv.1) -> (∀ je : Array Bool, je.size = listed.size -> (∀ j, je.getD j true = false ↔ listed.getD j true = false /\ ¬ ∃ x ∈ l, x.i = j) -> iZ C mu ops (bG B ay) K Kp mm je ρ (U.set id (.mp (lM kk l kv).1 (lM kk l kv).2))) ->
 iZ C mu ops (bG B ay) K Kp (n + mm) listed ρ (U.set id (.mp kv.1 kv.2)) := by
 intro n
 induction n with
 | zero =>
   intro l listed U kv hl xT rz hp ca hI NQ gd hK
   obtain rfl : l = [] := List.eq_nil_of_length_eq_zero hl
   rw [cD]
   exact hK listed rfl fun j => by simp
 | succ n ih =>
   intro l listed U kv hl xT rz hp ca hI NQ gd hK
   have Ce : ∀ x ∈ l, x.i ∈ Region.ready .any ops listed := fun x hx => by
    obtain ⟨o, v, h1, _, _, _, _, h6⟩ := ca x hx
    exact mem_ready.2 ⟨xT x hx, o, h1, h6⟩
   rw [show n + 1 + mm = (n + mm) + 1 by omega]
   refine ⟨fun h => ?_, fun j hj => ?_⟩
   · obtain ⟨x, l', rfl⟩ : ∃ x l', l = x :: l' := by cases l with | nil => simp at hl | cons x l' => exact ⟨x, l', rfl⟩
     have := Ce x (by simp)
     rw [h] at this; cases this
   · obtain ⟨x, hx, rfl⟩ : ∃ x ∈ l, x.i = j := by
      obtain ⟨h0, oj, kF, bK⟩ := mem_ready.1 hj
      rcases rz j oj kF h0 with h | h
      · exact h
      · exfalso
        obtain ⟨x, l', rfl⟩ : ∃ x l', l = x :: l' := by cases l with | nil => simp at hl | cons x l' => exact ⟨x, l', rfl⟩
        obtain ⟨ed, he, hb, xW⟩ := h x (by simp)
        have k1 := bK ed he hb
        rw [xW] at k1
        have k2 := xT x (by simp)
        rcases fT x.i listed.size with h' | h'
        · simp [h'] at k1 k2; rw [k2] at k1; cases k1
        · simp [sX h'] at k1
     obtain ⟨o, v, h1, h2, h3, h4, h5, h6⟩ := ca x hx
     obtain ⟨nG, nH, rfl⟩ := List.append_of_mem hx
     have hpa := hp
     rw [List.pairwise_append] at hp
     obtain ⟨p1, p2, p3⟩ := hp
     rw [List.pairwise_cons] at p2
     have FY : iU .i (.int kk x.key) kv.1 0 = some none := BG _ _ fun y hy => by
      obtain ⟨n, rfl⟩ := NQ.2 y hy
      exact ⟨n, rfl, fun e => gd x hx (by rw [<- e]; exact hy)⟩
     unfold ix
     rw [h1]
     dsimp only
     rw [h4, h2, h3]
     refine ⟨fun _ => ?_, fun h => by cases h⟩
     have hop : gh C (lA mu o) (.insert t (.tmp m) (.const (.int kk x.key)) v) ρ (U.set id (.mp kv.1 kv.2)) = .iN (.aN []) id (.mp (mO kk x.key x.val kv).1 (mO kk x.key x.val kv).2) := by
      show mV C.P t (ρ.ev C (.tmp m)) (ρ.ev C (.const (.int kk x.key))) (ρ.ev C v) _ = _
      rw [h5, show ρ.ev C (.tmp m) = .mp id from hm, show ρ.ev C (.const (.int kk x.key)) = .int kk x.key from rfl]
      simp only [mV, ht, SP, FY, mQ, mO]
     rw [hop]
     refine ⟨.inr fun b hb => ?_, ?_⟩
     · have bW : b ≠ id := fun e => hB (e ▸ hb)
       rw [set_set]
       simp only [St.set, if_neg bW]
       exact hI b hb
     · show iZ C mu ops (bG B ay) K Kp (n + mm) (listed.setIfInBounds x.i true) ρ _
       rw [set_set]
       have aK : x.i < listed.size := by
        have h0 := xT x hx
        rcases fT x.i listed.size with h | h
        · exact h
        · simp [sX h] at h0
       have vu : (listed.setIfInBounds x.i true).getD x.i true = true := by simp [aK]
       have sx : ∀ y ∈ nG ++ nH, y ∈ nG ++ x :: nH := fun y hy => by
        simp only [eH, dA] at hy ⊢
        rcases hy with hy | hy
        · exact .inl hy
        · exact .inr (.inr hy)
       have bW : ∀ y ∈ nG ++ nH, x.i ≠ y.i := fun y hy => by
        rcases eH.1 hy with hy | hy
        · exact (p3 y hy x (by simp)).1.symm
        · exact (p2.1 y hy).1
       refine ih (nG ++ nH) (listed.setIfInBounds x.i true) U (mO kk x.key x.val kv) ?_ ?_ ?_ ?_ ?_ hI (EH NQ) ?_ ?_
       · simp at hl ⊢; omega
       · intro y hy
         rw [getD_set_ne true (bW y hy)]
         exact xT y (sx y hy)
       · intro j oj kF h0
         have WJ : x.i ≠ j := fun e => by subst e; rw [vu] at h0; cases h0
         rw [getD_set_ne true WJ] at h0
         rcases rz j oj kF h0 with ⟨y, hy, rfl⟩ | h
         · left
           refine ⟨y, ?_, rfl⟩
           simp only [eH, dA] at hy ⊢
           rcases hy with hy | rfl | hy
           · exact .inl hy
           · exact absurd rfl WJ
           · exact .inr hy
         · right
           exact fun y hy => h y (sx y hy)
       · rw [List.pairwise_append]
         exact ⟨p1, p2.2, fun y hy z hz => p3 y hy z (by simp [hz])⟩
       · intro y hy
         obtain ⟨o', v', q1, q2, q3, q4, q5, q6⟩ := ca y (by simp only [eH, dA] at hy ⊢; rcases hy with hy | hy; exact .inl hy; exact .inr (.inr hy))
         exact ⟨o', v', q1, q2, q3, q4, q5, fun ed he hb => getD_set_true (q6 ed he hb)⟩
       · intro y hy jx
         rcases sC _ _ _ jx with e | e
         · simp only [AV.int.injEq, true_and] at e
           rcases eH.1 hy with hy | hy
           · exact (p3 y hy x (by simp)).2 e
           · exact (p2.1 y hy).2 e.symm
         · exact gd y (by simp only [eH, dA] at hy ⊢; rcases hy with hy | hy; exact .inl hy; exact .inr (.inr hy)) e
       · rw [<- uA nG x nH NQ (fun y hy => (p3 y hy x (by simp)).2)]
         intro je dw z6
         refine hK je (by rw [dw]; simp) fun j => ?_
         rw [z6 j]
         by_cases e : x.i = j
         · subst e
           rw [vu]
           constructor
           · rintro ⟨h, _⟩; cases h
           · rintro ⟨_, h⟩; exact absurd ⟨x, by simp, rfl⟩ h
         · rw [getD_set_ne true e]
           refine and_congr_right fun _ => not_congr ?_
           constructor
           · rintro ⟨y, hy, rfl⟩; exact ⟨y, sx y hy, rfl⟩
           · rintro ⟨y, hy, rfl⟩
             refine ⟨y, ?_, rfl⟩
             simp only [eH, dA] at hy ⊢
             rcases hy with hy | rfl | hy
             · exact .inl hy
             · exact absurd rfl e
             · exact .inr hy
def kJ (ops : Array Oper) : List (Bool × Nat) -> Array Bool -> Option (Array Bool)
 | [], listed => some listed
 | (true, i) :: r, listed => cond ((Region.ready .any ops listed).contains i && Region.free .any ops listed i) (kJ ops r (listed.setIfInBounds i true)) none
 | (false, i) :: r, listed => cond (Region.ready .any ops listed == [i] && !ik ops i) (kJ ops r (listed.setIfInBounds i true)) none
theorem sN {m : Nat} {mH : Array Bool} {K0 : Env -> St -> Prop} (BX : ∀ ρ U, Dn ops mH -> bG B ay U -> K0 ρ U -> iZ C mu ops (bG B ay) K Kp m mH ρ U) : ∀ (cM : List (Bool × Nat)) (listed : Array Bool) (ρ : Env) (U : St), kJ ops cM listed = some mH -> Dn ops listed -> bG B ay U -> jD C mu ops B ay K0 Kp cM ρ U ->
 iZ C mu ops (bG B ay) K Kp (cM.length + m) listed ρ U
 | [], listed, ρ, U, hp, hD, hI, h => by
   simp only [kJ, fL] at hp
   subst hp
   simpa using BX ρ U hD hI h
 | (true, i) :: r, listed, ρ, U, hp, hD, hI, h => by
   simp only [kJ] at hp
   cases hc : ((Region.ready .any ops listed).contains i && Region.free .any ops listed i) with
   | false => rw [hc] at hp; cases hp
   | true =>
     rw [hc] at hp
     simp only [bM] at hc
     obtain ⟨o, v, ho, eL, hr⟩ := h
     have := xu ho (r.length + m) listed ρ U (Region.free_spec ho hc.2) (by simpa using hc.1) hD eL hI (sN BX r _ _ U hp (hD.set (by simpa using hc.1)) hI hr)
     rw [show ((true, i) :: r).length + m = r.length + m + 1 by simp; omega]
     exact this
 | (false, i) :: r, listed, ρ, U, hp, hD, hI, h => by
   simp only [kJ] at hp
   cases hc : (Region.ready .any ops listed == [i] && !ik ops i) with
   | false => rw [hc] at hp; cases hp
   | true =>
     rw [hc] at hp
     simp only [bM, beq_iff_eq, Bool.not_eq_true'] at hc
     obtain ⟨hc, B7⟩ := hc
     rw [show ((false, i) :: r).length + m = r.length + m + 1 by simp; omega]
     refine ⟨fun h0 => (by rw [hc] at h0; cases h0), fun j hj => ?_⟩
     have zZ := hj
     rw [hc, kM] at hj
     subst hj
     exact yr (.inr hI) (fun cT ad xI hr => sN BX r _ cT ad hp (hD.set zZ) (xI.resolve_left (by rw [B7]; simp)) hr) h
structure jZ where
 t : TypeId
 m : Nat
 kk : IntKind
 l : List Nat
def F6 (I : jZ) (o : Oper) : Option (Int × Operand) := match o.op, o.dst, o.guard with
 | .insert t (.tmp m) (.const (.int kk a)) v, none, none => cond (Nat.beq t I.t && (Nat.beq m I.m && decide (kk = I.kk))) (some (a, v)) none
 | _, _, _ => none
def jc (ops : Array Oper) (I : jZ) (i : Nat) : Option (Int × Operand) := (ops[i]?).bind (F6 I)
def AX (listed : Array Bool) (o : Oper) : Bool := o.after.toList.all fun e => !Region.binds .any e || listed.getD e.on false
def yT (ops : Array Oper) (I : jZ) (listed : Array Bool) : Bool := (List.range ops.size).all fun j => listed.getD j true || (I.l.contains j || (match ops[j]? with
 | some o => I.l.all fun i => o.after.toList.any fun e => Region.binds .any e && Nat.beq e.on i
 | none => true))
def mv (ops : Array Oper) (I : jZ) (listed : Array Bool) : Bool :=
 yT ops I listed && (I.l.all (fun i => !listed.getD i true) && (Nat.beq listed.size ops.size && (I.l.all (fun i => Nat.blt i ops.size && ((jc ops I i).isSome && (match ops[i]? with | some o => AX listed o | none => false)))
  && (decide I.l.Nodup && decide (I.l.map fun i => ((jc ops I i).map (·.1)).getD 0).Nodup))))
def er (listed : Array Bool) (l : List Nat) : Array Bool := l.foldl (fun a i => a.setIfInBounds i true) listed
theorem qV : ∀ (l : List Nat) (a : Array Bool), (er a l).size = a.size
 | [], _ => rfl
 | i :: l, a => by
   show (er (a.setIfInBounds i true) l).size = _
   rw [qV l]; simp
theorem s8 : ∀ (l : List Nat) (a : Array Bool) (j : Nat), (er a l).getD j true = false ↔ a.getD j true = false /\ j ∉ l
 | [], _, _ => by simp [er]
 | i :: l, a, j => by
   show (er (a.setIfInBounds i true) l).getD j true = false ↔ _
   rw [s8 l]
   by_cases e : i = j
   · subst e
     have : (a.setIfInBounds i true).getD i true = true := by
      by_cases h : i < a.size
      · simp [h]
      · simp [sX (Nat.le_of_not_lt h)]
     rw [this]; simp
   · rw [getD_set_ne true e]; simp [Ne.symm e]
def jW (C : bX) (ops : Array Oper) (ρ : Env) (I : jZ) : List qC := I.l.filterMap fun i => (jc ops I i).map fun p => ⟨i, p.1, ρ.ev C p.2⟩
def F5 (C : bX) (ops : Array Oper) (B : List Nat) (I : jZ) (K : Env -> St -> Prop) (ρ : Env) (U : St) : Prop :=
 ∃ id, ρ.get I.m = .mp id /\ U.mp id = some ([], []) /\ id ∉ B /\ K ρ (U.set id (.mp (lM I.kk (jW C ops ρ I) ([], [])).1 (lM I.kk (jW C ops ρ I) ([], [])).2))
theorem F7 {I : jZ} {o : Oper} {a : Int} {v : Operand} (h : F6 I o = some (a, v)) : o.op = .insert I.t (.tmp I.m) (.const (.int I.kk a)) v /\ o.dst = none /\ o.guard = none := by
 unfold F6 at h
 split at h
 · rename_i t m kk a' v' h1 h2 h3
   cases hc : (Nat.beq t I.t && (Nat.beq m I.m && decide (kk = I.kk))) with
   | false => rw [hc] at h; cases h
   | true =>
     rw [hc] at h
     simp only [bM, dD] at hc
     obtain ⟨e1, e2, e3⟩ := hc
     have e1 := dG e1
     have e2 := dG e2
     simp only [cond_true, fL, ji] at h
     obtain ⟨rfl, rfl⟩ := h
     exact ⟨by rw [h1, e1, e2, e3], h2, h3⟩
 · cases h
theorem D3 {U : St} {id : Nat} {kv : List AV × List AV} (h : U.mp id = some kv) : U.set id (.mp kv.1 kv.2) = U := by
 have := St.lO.1 h
 simp only [St.set]
 cases U with
 | mk live nb =>
   simp only [St.mk.injEq, and_true]
   funext q
   split
   · rename_i e; subst e; exact this.symm
   · rfl
theorem Dn.er {I : jZ} {listed : Array Bool} (hD : Dn ops listed) (hc : mv ops I listed = true) : Dn ops (Go.Rip.er listed I.l) := by
 simp only [mv, bM, eh] at hc
 obtain ⟨h0, h1, h2, h3, _⟩ := hc
 have h2 := dG h2
 have mono : ∀ (l : List Nat) (a : Array Bool) (j : Nat), a.getD j false = true -> (Go.Rip.er a l).getD j false = true := fun l => by
  induction l with
  | nil => exact fun a j h => h
  | cons i l ih => exact fun a j h => ih _ j (getD_set_true h)
 intro m o ho hl e he hb
 by_cases hm : m ∈ I.l
 · have := (h3 m hm).2.2
   rw [ho] at this
   simp only [AX, eh, hZ] at this
   have := this e (by simpa using he)
   rw [hb] at this
   exact mono _ _ _ (by simpa using this)
 · have aK : m < listed.size := by rw [h2]; exact (gV.1 ho).1
   have hlm : listed.getD m false = true := by
    cases hh : listed.getD m true with
    | false =>
      have k := (s8 I.l listed m).2 ⟨hh, hm⟩
      have hs : m < (Go.Rip.er listed I.l).size := by rw [qV]; exact aK
      simp [hs] at k hl
      rw [k] at hl; cases hl
    | true => simp [aK] at hh ⊢; exact hh
   exact mono _ _ _ (hD m o ho hlm e he hb)
theorem Ik {I : jZ} {listed : Array Bool} {e : TypeId} {mm : Nat} {K1 : Env -> St -> Prop} (ht : mU C.P I.t = some (.i, e)) (hc : mv ops I listed = true)
 (ZK : ∀ ρ U, Dn ops (er listed I.l) -> bG B ay U -> K1 ρ U -> iZ C mu ops (bG B ay) K Kp mm (er listed I.l) ρ U) : ∀ ρ U, Dn ops listed -> bG B ay U -> F5 C ops B I K1 ρ U -> iZ C mu ops (bG B ay) K Kp (I.l.length + mm) listed ρ U := by
 rintro ρ U hD hI ⟨id, hm, B6, hB, hK⟩
 have ZH := hD.er hc
 simp only [mv, bM, eh, dD, Bool.not_eq_true'] at hc
 obtain ⟨h0, h1, h2, h3, h4, h5⟩ := hc
 have h2 := dG h2
 have F1 : ∀ i ∈ I.l, ∃ a v, jc ops I i = some (a, v) := fun i hi => by
  have := (h3 i hi).2.1
  obtain ⟨p, hp⟩ := Option.isSome_iff_exists.1 this
  exact ⟨p.1, p.2, hp⟩
 have jx : ∀ x, x ∈ jW C ops ρ I ↔ ∃ i ∈ I.l, ∃ a v, jc ops I i = some (a, v) /\ x = ⟨i, a, ρ.ev C v⟩ := fun x => by
  simp only [jW, List.mem_filterMap, lD]
  constructor
  · rintro ⟨i, hi, ⟨a, v⟩, hp, rfl⟩; exact ⟨i, hi, a, v, hp, rfl⟩
  · rintro ⟨i, hi, a, v, hp, rfl⟩; exact ⟨i, hi, (a, v), hp, rfl⟩
 have qd : ∀ j, (∃ x ∈ jW C ops ρ I, x.i = j) ↔ j ∈ I.l := fun j => by
  constructor
  · rintro ⟨x, hx, rfl⟩
    obtain ⟨i, hi, a, v, hp, rfl⟩ := (jx _).1 hx
    exact hi
  · intro hj
    obtain ⟨a, v, hp⟩ := F1 j hj
    exact ⟨_, (jx _).2 ⟨j, hj, a, v, hp, rfl⟩, rfl⟩
 rw [<- D3 B6]
 have hlen : (jW C ops ρ I).length = I.l.length := by
  have : ∀ l : List Nat, (∀ i ∈ l, ∃ a v, jc ops I i = some (a, v)) -> (l.filterMap fun i => (jc ops I i).map fun p => (⟨i, p.1, ρ.ev C p.2⟩ : qC)).length = l.length := fun l => by
   induction l with
   | nil => intro _; rfl
   | cons i l ih =>
     intro h
     obtain ⟨a, v, hp⟩ := h i (by simp)
     simp only [List.filterMap_cons, hp, Option.map_some, nc, ih fun j hj => h j (by simp [hj])]
  exact this _ F1
 have hpw : (jW C ops ρ I).Pairwise (fun x y => x.i ≠ y.i /\ x.key ≠ y.key) := by
  have : ∀ l : List Nat, (∀ i ∈ l, ∃ a v, jc ops I i = some (a, v)) -> l.Nodup -> (l.map fun i => ((jc ops I i).map (·.1)).getD 0).Nodup -> (l.filterMap fun i => (jc ops I i).map fun p => (⟨i, p.1, ρ.ev C p.2⟩ : qC)).Pairwise (fun x y => x.i ≠ y.i /\ x.key ≠ y.key) := fun l => by
   induction l with
   | nil => intro _ _ _; exact List.Pairwise.nil
   | cons i l ih =>
     intro h hn hk
     obtain ⟨a, v, hp⟩ := h i (by simp)
     rw [List.nodup_cons] at hn
     rw [dN, List.nodup_cons] at hk
     simp only [List.filterMap_cons, hp, Option.map_some]
     refine List.Pairwise.cons (fun y hy => ?_) (ih (fun j hj => h j (by simp [hj])) hn.2 hk.2)
     rw [List.mem_filterMap] at hy
     obtain ⟨j, hj, WK⟩ := hy
     rw [lD] at WK
     obtain ⟨p, Ev, rfl⟩ := WK
     refine ⟨fun e => hn.1 (by have e : i = j := e; rw [e]; exact hj), fun e => hk.1 ?_⟩
     have e : a = p.1 := e
     refine List.mem_map.2 ⟨j, hj, ?_⟩
     rw [Ev, hp]; simp [e]
  exact this _ F1 h4 h5
 refine PA (kk := I.kk) ht hm hB mm _ (jW C ops ρ I) listed U ([], []) hlen ?_ ?_ hpw ?_ hI ⟨rfl, fun y hy => by cases hy⟩ (fun x hx => by simp) ?_
 · intro x hx
   exact h1 x.i ((qd x.i).1 ⟨x, hx, rfl⟩)
 · intro j o ho hj
   have aK : j < ops.size := (gV.1 ho).1
   simp only [yT, eh, List.mem_range, hZ] at h0
   have := h0 j aK
   rw [ho, hj] at this
   rcases this with h | h | h
   · cases h
   · left; exact (qd j).2 (by simpa using h)
   · right
     intro x hx
     simp only [eh] at h
     have := h x.i ((qd x.i).1 ⟨x, hx, rfl⟩)
     rw [List.any_eq_true] at this
     obtain ⟨ed, he, hb⟩ := this
     simp only [bM] at hb
     exact ⟨ed, by simpa using he, hb.1, dG hb.2⟩
 · intro x hx
   obtain ⟨i, hi, a, v, hp, rfl⟩ := (jx _).1 hx
   unfold jc at hp
   rw [Option.bind_eq_some_iff] at hp
   obtain ⟨o, ho, hp⟩ := hp
   obtain ⟨q1, q2, q3⟩ := F7 hp
   refine ⟨o, v, ho, q1, q2, q3, rfl, fun ed he hb => ?_⟩
   have := (h3 i hi).2.2
   rw [ho] at this
   simp only [AX, eh, hZ] at this
   have := this ed (by simpa using he)
   rw [hb] at this
   simpa using this
 · intro je dw z6
   have e : je = er listed I.l := by
    apply Array.ext (by rw [qV, dw])
    intro j tE po
    have k1 := z6 j
    have k2 := s8 I.l listed j
    rw [qd] at k1
    have k3 : je.getD j true = false ↔ (er listed I.l).getD j true = false := k1.trans k2.symm
    have e1 : je.getD j true = je[j] := by simp [tE]
    have e2 : (er listed I.l).getD j true = (er listed I.l)[j] := by simp [po]
    rw [e1, e2] at k3
    cases h1 : je[j] <;> cases h2 : (er listed I.l)[j] <;> simp_all
   rw [e]
   refine ZK ρ _ ZH ?_ hK
   intro b hb
   have bW : b ≠ id := fun e => hB (e ▸ hb)
   simp only [St.set, if_neg bW]
   exact hI b hb
def qt (P : Program) (ops : Array Oper) (cM : List (Bool × Nat)) (I : jZ) (post : List (Bool × Nat)) : Bool :=
 (match kJ ops cM (Array.replicate ops.size false) with | some l => mv ops I l && fi ops post (er l I.l) | none => false) && (Nat.beq (cM.length + (I.l.length + post.length)) ops.size && (match mU P I.t with | some (.i, _) => true | _ => false))
theorem aY.Ja {nt id : Nat} {ro : Ro} {Q : Ex -> Env -> St -> Prop} {ρ : Env} {U : St} (cM : List (Bool × Nat)) (I : jZ) (post : List (Bool × Nat)) (hm : C.P.follows .mixedOrders = true) (ca : iu nt ops = true) (hp : qt C.P ops cM I post = true)
 (h : jD C mu ops B U (F5 C ops B I (jD C mu ops B U (KQ Q) (tt Q) post)) (tt Q) cM ρ U) : aY C nt ro (.region id ops true) Q ρ U := by
 simp only [qt, bM] at hp
 obtain ⟨h1, h2, h3⟩ := hp
 have h2 := dG h2
 split at h3
 · rename_i e ht
   split at h1
   · rename_i l hl
     rw [bM] at h1
     refine aY.uU mu (bG B U) hm ca ?_
     have := sN (Ik ht h1.1 (fun cT ad ZG xI hk => og post _ cT ad h1.2 ZG (.inr xI) hk)) cM _ ρ U hl (Dn.none _ _) (fun _ _ => rfl) h
     rw [h2] at this
     exact this
   · cases h1
 · cases h3
end
end Go.Rip
namespace Go.Rip
open Go.RowKit
structure Row where
 d : Nat
 l : Nat
 a : Nat
def Fp : Option Nat -> Nat
 | some d => 2 ^ d
 | none => 0
def lV : List Nat -> Nat
 | [] => 0
 | d :: l => Nat.lor (2 ^ d) (lV l)
theorem cR (k : Nat) : ∀ l : List Nat, (lV l).testBit k = true ↔ k ∈ l
 | [] => by simp [lV]
 | d :: l => by
   show (2 ^ d ||| lV l).testBit k = true ↔ _
   rw [Nat.testBit_or, Nat.testBit_two_pow, hZ, cR k l]
   simp [eq_comm]
theorem gi (k : Nat) (o : Option Nat) : (Fp o).testBit k = true ↔ o = some k := by
 cases o with
 | none => simp [Fp]
 | some d => simp [Fp, Nat.testBit_two_pow]
def tR (o : Oper) : List Nat := (o.after.toList.filter fun e => Region.binds .any e).map (·.on)
def rowOf (ops : Array Oper) (o : Oper) : Row := ⟨Fp o.dst, lV (o.looksAt ops), lV (tR o)⟩
def jJ (a b : Nat) : Bool := Nat.beq (Nat.land a b) a
def Fx (a b : Nat) : Bool := Nat.beq (Nat.land a b) 0
theorem oq {a b : Nat} (h : jJ a b = true) (k : Nat) (hk : a.testBit k = true) : b.testBit k = true := by
 have e : a &&& b = a := dG h
 have := congrArg (fun n => n.testBit k) e
 simp only [Nat.testBit_and, hk, Bool.true_and] at this
 exact this
theorem mh {a b : Nat} (h : Fx a b = true) (k : Nat) (hk : a.testBit k = true) : ¬ b.testBit k = true := by
 have e : a &&& b = 0 := dG h
 have := congrArg (fun n => n.testBit k) e
 simp only [Nat.testBit_and, hk, Bool.true_and, Nat.zero_testBit] at this
 simp [this]
def hasB (m i : Nat) : Bool := Nat.beq (Nat.land (Nat.shiftRight m i) 1) 1
theorem jV (m i : Nat) : hasB m i = m.testBit i := by
 have e : Nat.land (Nat.shiftRight m i) 1 = 1 &&& (m >>> i) := Nat.and_comm _ _
 unfold hasB Nat.testBit
 rw [e]
 cases h : Nat.beq (1 &&& m >>> i) 1 with
 | true => have := dG h; rw [this]; rfl
 | false =>
   have h1 : (1 &&& m >>> i) ≠ 1 := fun e => by rw [e] at h; simp at h
   have h2 : (1 &&& m >>> i) = 0 := by
    have : 1 &&& (m >>> i) = (m >>> i) % 2 := Nat.one_and_eq_mod_two _
    omega
   rw [h2]; rfl
def A8 (i : Nat) (x y : Row) : Bool := hasB y.a i || (Fx x.d y.l && (Fx x.d y.d && Fx y.d x.l))
def wM (done i : Nat) (x : Row) : List Row -> Nat -> Bool
 | [], _ => true
 | y :: r, j => (Nat.beq j i || (hasB done j || A8 i x y)) && wM done i x r (j + 1)
def wL (done i : Nat) : List Row -> Nat -> Bool
 | [], _ => true
 | y :: r, j => (Nat.beq j i || (hasB done j || !jJ y.a done)) && wL done i r (j + 1)
def sO (rows : List Row) (n : Nat) : List (Bool × Nat) -> Nat -> Bool
 | [], done => Nat.beq done (2 ^ n - 1)
 | (true, i) :: r, done => match rows[i]? with
   | some x => !hasB done i && (jJ x.a done && (wM done i x rows 0 && sO rows n r (Nat.lor done (2 ^ i))))
   | none => false
 | (false, i) :: r, done => match rows[i]? with
   | some x => !hasB done i && (jJ x.a done && (wL done i rows 0 && sO rows n r (Nat.lor done (2 ^ i))))
   | none => false
theorem tU {done i : Nat} {x : Row} : ∀ {l : List Row} {j : Nat}, wM done i x l j = true -> ∀ k y, l[k]? = some y -> (j + k = i \/ done.testBit (j + k) = true \/ A8 i x y = true)
 | [], _, _, k, y, hy => by simp at hy
 | z :: r, j, h, k, y, hy => by
   simp only [wM, bM, hZ, jV] at h
   cases k with
   | zero =>
     simp at hy; subst hy
     rcases h.1 with h | h | h
     · exact .inl (dG h)
     · exact .inr (.inl h)
     · exact .inr (.inr h)
   | succ k =>
     have := tU h.2 k y (by simpa using hy)
     rw [show j + (k + 1) = j + 1 + k by omega]; exact this
theorem tT {done i : Nat} : ∀ {l : List Row} {j : Nat}, wL done i l j = true -> ∀ k y, l[k]? = some y -> (j + k = i \/ done.testBit (j + k) = true \/ jJ y.a done = false)
 | [], _, _, k, y, hy => by simp at hy
 | z :: r, j, h, k, y, hy => by
   simp only [wL, bM, hZ, jV, Bool.not_eq_true'] at h
   cases k with
   | zero =>
     simp at hy; subst hy
     rcases h.1 with h | h | h
     · exact .inl (dG h)
     · exact .inr (.inl h)
     · exact .inr (.inr h)
   | succ k =>
     have := tT h.2 k y (by simpa using hy)
     rw [show j + (k + 1) = j + 1 + k by omega]; exact this
def fg (n : Nat) (listed : Array Bool) (done : Nat) : Prop := listed.size = n /\ ∀ k, k < n -> listed[k]? = some (done.testBit k)
section
variable {ops : Array Oper} {listed : Array Bool} {done : Nat}
theorem fg.get (h : fg ops.size listed done) {k : Nat} (hk : k < ops.size) (d : Bool) : listed.getD k d = done.testBit k := by
 have := h.2 k hk
 simp [this]
theorem fg.out (h : fg ops.size listed done) {k : Nat} (hk : ¬ k < ops.size) (d : Bool) : listed.getD k d = d := by
 have : listed[k]? = none := sX (by rw [h.1]; omega)
 simp [this]
theorem fg.set (h : fg ops.size listed done) (i : Nat) : fg ops.size (listed.setIfInBounds i true) (Nat.lor done (2 ^ i)) := by
 refine ⟨by simp [h.1], fun k hk => ?_⟩
 show _ = some ((done ||| 2 ^ i).testBit k)
 rw [Nat.testBit_or, Nat.testBit_two_pow]
 by_cases e : i = k
 · subst e
   have : i < listed.size := by rw [h.1]; exact hk
   simp [Array.getElem?_setIfInBounds, this]
 · rw [Array.getElem?_setIfInBounds_ne e, h.2 k hk]
   simp [e]
theorem s0 {i : Nat} {x : Row} (h : (ops.toList.map (rowOf ops))[i]? = some x) : ∃ o, ops[i]? = some o /\ x = rowOf ops o := by
 rw [jE, lD] at h
 obtain ⟨o, ho, e⟩ := h
 exact ⟨o, by simpa using ho, e.symm⟩
theorem o6 {o : Oper} {k : Nat} : k ∈ tR o ↔ ∃ e ∈ o.after, Region.binds .any e = true /\ e.on = k := by
 simp [tR, and_assoc]
theorem mz (h : fg ops.size listed done) {j : Nat} {o : Oper} (ho : ops[j]? = some o) : j ∈ Region.ready .any ops listed ↔ done.testBit j = false /\ ∀ k, k ∈ tR o -> k < ops.size /\ done.testBit k = true := by
 have hj : j < ops.size := (gV.1 ho).1
 rw [mem_ready, h.get hj]
 refine and_congr_right fun _ => ⟨?_, ?_⟩
 · rintro ⟨o', NX, bK⟩ k hk
   rw [ho] at NX; cases NX
   obtain ⟨e, he, hb, rfl⟩ := o6.1 hk
   have := bK e he hb
   by_cases hk : e.on < ops.size
   · rw [h.get hk] at this; exact ⟨hk, this⟩
   · rw [h.out hk] at this; cases this
 · intro bK
   refine ⟨o, ho, fun e he hb => ?_⟩
   obtain ⟨hk, ht⟩ := bK e.on (o6.2 ⟨e, he, hb, rfl⟩)
   rw [h.get hk]; exact ht
theorem AQ {i : Nat} {o : Oper} (hm : fg ops.size listed done) (ho : ops[i]? = some o) (h3 : wM done i (rowOf ops o) (ops.toList.map (rowOf ops)) 0 = true) : Region.free .any ops listed i = true := by
 simp only [Region.free, ho, eh, List.mem_range, hZ]
 intro j hj
 obtain ⟨oj, kF⟩ : ∃ oj, ops[j]? = some oj := ⟨ops[j], by simp [hj]⟩
 rw [kF]
 have hy : (ops.toList.map (rowOf ops))[j]? = some (rowOf ops oj) := by
  rw [jE]; simp [kF]
 rcases tU h3 j _ hy with e | e | e
 · left; left; simp at e; simp [e]
 · left; right; rw [hm.get hj]; simpa using e
 · right
   simp only [A8, hZ, bM, jV] at e
   show ((oj.after.any fun e => Region.binds .any e && e.on == i) || o.apart ops oj) = true
   rw [hZ]
   rcases e with e | ⟨e1, e2, e3⟩
   · left
     have := (cR i _).1 e
     obtain ⟨ed, he, hb, xW⟩ := o6.1 this
     rw [Array.any_eq_true']
     exact ⟨ed, he, by simp [hb, xW]⟩
   · right
     have k1 : ∀ d, o.dst = some d -> d ∉ oj.looksAt ops := fun d hd hm => mh e1 d ((gi d _).2 hd) ((cR d _).2 hm)
     have k2 : ∀ d, o.dst = some d -> oj.dst ≠ some d := fun d hd hm => mh e2 d ((gi d _).2 hd) ((gi d _).2 hm)
     have k3 : ∀ d, oj.dst = some d -> d ∉ o.looksAt ops := fun d hd hm => mh e3 d ((gi d _).2 hd) ((cR d _).2 hm)
     unfold Oper.apart
     cases vY : o.dst <;> cases tC : oj.dst <;> simp only [bM, Bool.not_eq_true', bne_iff_ne, ne_eq, Bool.and_self, and_self, true_and, and_true]
     · rename_i d; simpa using k3 d tC
     · rename_i d; exact ⟨by simpa using k1 d vY, by simp⟩
     · rename_i d d'
       refine ⟨⟨by simpa using k1 d vY, fun e => k2 d vY (by rw [tC]; exact e)⟩, by simpa using k3 d' tC⟩
theorem uT {i : Nat} {o : Oper} (hm : fg ops.size listed done) (ho : ops[i]? = some o) (h1 : done.testBit i = false) (sub : ∀ k, k ∈ tR o -> k < ops.size /\ done.testBit k = true) (h3 : wL done i (ops.toList.map (rowOf ops)) 0 = true) : Region.ready .any ops listed = [i] := by
 have key : ∀ j, j ∈ Region.ready .any ops listed -> j = i := fun j hj => by
  obtain ⟨h0, oj, kF, _⟩ := mem_ready.1 hj
  have hr := (mz hm kF).1 hj
  have Eo : j < ops.size := (gV.1 kF).1
  have hy : (ops.toList.map (rowOf ops))[j]? = some (rowOf ops oj) := by
   rw [jE]; simp [kF]
  rcases tT h3 j _ hy with e | e | e
  · simpa using e
  · rw [cD] at e; rw [hr.1] at e; cases e
  · exfalso
    have : jJ (rowOf ops oj).a done = true := by
     unfold jJ
     have e2 : (rowOf ops oj).a &&& done = (rowOf ops oj).a := by
      apply Nat.eq_of_testBit_eq
      intro k
      rw [Nat.testBit_and]
      cases hk : (rowOf ops oj).a.testBit k with
      | false => rfl
      | true => rw [(hr.2 k ((cR k _).1 hk)).2]; rfl
     show Nat.beq ((rowOf ops oj).a &&& done) _ = true
     rw [e2]; simp
    rw [this] at e; cases e
 have jx := (mz hm ho).2 ⟨h1, sub⟩
 have hnd : (Region.ready .any ops listed).Nodup := (List.Pairwise.filter _ List.nodup_range)
 match hl : Region.ready .any ops listed with
 | [] => rw [hl] at jx; cases jx
 | [x] => rw [hl] at key; rw [key x (by simp)]
 | x :: y :: zs =>
   rw [hl] at key hnd
   have e1 := key x (by simp)
   have e2 := key y (by simp)
   subst e1; subst e2
   simp at hnd
theorem sP : ∀ (cM : List (Bool × Nat)) (listed : Array Bool) (done : Nat), fg ops.size listed done -> done < 2 ^ ops.size -> sO (ops.toList.map (rowOf ops)) ops.size cM done = true -> fi ops cM listed = true
 | [], listed, done, hm, aK, h => by
   have e : done = 2 ^ ops.size - 1 := dG h
   simp only [fi, List.isEmpty_iff]
   rw [List.eq_nil_iff_forall_not_mem]
   intro j hj
   obtain ⟨h0, o, ho, _⟩ := mem_ready.1 hj
   have Eo : j < ops.size := (gV.1 ho).1
   rw [hm.get Eo, e, Nat.testBit_two_pow_sub_one] at h0
   simp [Eo] at h0
 | (true, i) :: r, listed, done, hm, aK, h => by
   simp only [sO] at h
   split at h
   · rename_i x hx
     obtain ⟨o, ho, rfl⟩ := s0 hx
     simp only [bM, Bool.not_eq_true', jV] at h
     obtain ⟨h1, h2, h3, h4⟩ := h
     have hi : i < ops.size := (gV.1 ho).1
     have oB : Nat.lor done (2 ^ i) < 2 ^ ops.size := Nat.or_lt_two_pow aK (Nat.pow_lt_pow_right (by omega) hi)
     have sub : ∀ k, k ∈ tR o -> k < ops.size /\ done.testBit k = true := fun k hk => by
      have := oq h2 k ((cR k _).2 hk)
      refine ⟨?_, this⟩
      rcases fT k ops.size with h | h
      · exact h
      · rw [Nat.testBit_lt_two_pow (Nat.lt_of_lt_of_le aK (Nat.pow_le_pow_right (by omega) h))] at this; cases this
     simp only [fi, bM]
     refine ⟨⟨?_, ?_⟩, sP r _ _ (hm.set i) oB h4⟩
     · simp only [List.contains_iff_mem]
       exact (mz hm ho).2 ⟨h1, sub⟩
     · simp only [Region.free, ho, eh, List.mem_range, hZ]
       intro j hj
       obtain ⟨oj, kF⟩ : ∃ oj, ops[j]? = some oj := ⟨ops[j], by simp [hj]⟩
       rw [kF]
       have hy : (ops.toList.map (rowOf ops))[j]? = some (rowOf ops oj) := by
        rw [jE]; simp [kF]
       rcases tU h3 j _ hy with e | e | e
       · left; left; simp at e; simp [e]
       · left; right; rw [hm.get hj]; simpa using e
       · right
         simp only [A8, hZ, bM, jV] at e
         show ((oj.after.any fun e => Region.binds .any e && e.on == i) || o.apart ops oj) = true
         rw [hZ]
         rcases e with e | ⟨e1, e2, e3⟩
         · left
           have := (cR i _).1 e
           obtain ⟨ed, he, hb, xW⟩ := o6.1 this
           rw [Array.any_eq_true']
           exact ⟨ed, he, by simp [hb, xW]⟩
         · right
           have k1 : ∀ d, o.dst = some d -> d ∉ oj.looksAt ops := fun d hd hm => mh e1 d ((gi d _).2 hd) ((cR d _).2 hm)
           have k2 : ∀ d, o.dst = some d -> oj.dst ≠ some d := fun d hd hm => mh e2 d ((gi d _).2 hd) ((gi d _).2 hm)
           have k3 : ∀ d, oj.dst = some d -> d ∉ o.looksAt ops := fun d hd hm => mh e3 d ((gi d _).2 hd) ((cR d _).2 hm)
           unfold Oper.apart
           cases vY : o.dst <;> cases tC : oj.dst <;> simp only [bM, Bool.not_eq_true', bne_iff_ne, ne_eq, Bool.and_self, and_self, true_and, and_true]
           · rename_i d; simpa using k3 d tC
           · rename_i d; exact ⟨by simpa using k1 d vY, by simp⟩
           · rename_i d d'
             refine ⟨⟨by simpa using k1 d vY, fun e => k2 d vY (by rw [tC]; exact e)⟩, by simpa using k3 d' tC⟩
   · cases h
 | (false, i) :: r, listed, done, hm, aK, h => by
   simp only [sO] at h
   split at h
   · rename_i x hx
     obtain ⟨o, ho, rfl⟩ := s0 hx
     simp only [bM, Bool.not_eq_true', jV] at h
     obtain ⟨h1, h2, h3, h4⟩ := h
     have hi : i < ops.size := (gV.1 ho).1
     have oB : Nat.lor done (2 ^ i) < 2 ^ ops.size := Nat.or_lt_two_pow aK (Nat.pow_lt_pow_right (by omega) hi)
     have sub : ∀ k, k ∈ tR o -> k < ops.size /\ done.testBit k = true := fun k hk => by
      have := oq h2 k ((cR k _).2 hk)
      refine ⟨?_, this⟩
      rcases fT k ops.size with h | h
      · exact h
      · rw [Nat.testBit_lt_two_pow (Nat.lt_of_lt_of_le aK (Nat.pow_le_pow_right (by omega) h))] at this; cases this
     simp only [fi, bM, beq_iff_eq]
     refine ⟨?_, sP r _ _ (hm.set i) oB h4⟩
     have key : ∀ j, j ∈ Region.ready .any ops listed -> j = i := fun j hj => by
      obtain ⟨h0, oj, kF, _⟩ := mem_ready.1 hj
      have hr := (mz hm kF).1 hj
      have Eo : j < ops.size := (gV.1 kF).1
      have hy : (ops.toList.map (rowOf ops))[j]? = some (rowOf ops oj) := by
       rw [jE]; simp [kF]
      rcases tT h3 j _ hy with e | e | e
      · simpa using e
      · rw [cD] at e; rw [hr.1] at e; cases e
      · exfalso
        have : jJ (rowOf ops oj).a done = true := by
         unfold jJ
         have e2 : (rowOf ops oj).a &&& done = (rowOf ops oj).a := by
          apply Nat.eq_of_testBit_eq
          intro k
          rw [Nat.testBit_and]
          cases hk : (rowOf ops oj).a.testBit k with
          | false => rfl
          | true => rw [(hr.2 k ((cR k _).1 hk)).2]; rfl
         show Nat.beq ((rowOf ops oj).a &&& done) _ = true
         rw [e2]; simp
        rw [this] at e; cases e
     have jx := (mz hm ho).2 ⟨h1, sub⟩
     have hnd : (Region.ready .any ops listed).Nodup := (List.Pairwise.filter _ List.nodup_range)
     match hl : Region.ready .any ops listed with
     | [] => rw [hl] at jx; cases jx
     | [x] => rw [hl] at key; rw [key x (by simp)]
     | x :: y :: zs =>
       rw [hl] at key hnd
       have e1 := key x (by simp)
       have e2 := key y (by simp)
       subst e1; subst e2
       simp at hnd
   · cases h
end
def ym : List Row -> List Row -> Bool
 | [], [] => true
 | x :: xs, y :: ys => Nat.beq x.d y.d && (Nat.beq x.l y.l && (Nat.beq x.a y.a && ym xs ys))
 | _, _ => false
theorem xj : ∀ {a b : List Row}, ym a b = true -> a = b
 | [], [], _ => rfl
 | x :: xs, y :: ys, h => by
   simp only [ym, bM] at h
   obtain ⟨h1, h2, h3, h4⟩ := h
   obtain ⟨a, b, c⟩ := x
   obtain ⟨a', b', c'⟩ := y
   have e1 : a = a' := dG h1
   have e2 : b = b' := dG h2
   have e3 : c = c' := dG h3
   rw [e1, e2, e3, xj h4]
 | [], _ :: _, h => by cases h
 | _ :: _, [], h => by cases h
structure Pl where
 steps : List (Bool × Nat)
 rows : List Row
def GA (ops : Array Oper) (p : Pl) : Bool := ym (ops.toList.map (rowOf ops)) p.rows && (sO p.rows ops.size p.steps 0 && Nat.beq p.steps.length ops.size)
theorem EZ {ops : Array Oper} {p : Pl} (h : GA ops p = true) : (fi ops p.steps (Array.replicate ops.size false) && (p.steps.length == ops.size)) = true := by
 simp only [GA, bM] at h
 obtain ⟨h1, h2, h3⟩ := h
 rw [<- xj h1] at h2
 simp only [bM, beq_iff_eq]
 refine ⟨sP _ _ 0 ⟨by simp, fun k hk => by simp [hk]⟩ (Nat.two_pow_pos _) h2, dG h3⟩
def my (ops : Array Oper) (rows : List Row) : List (Bool × Nat) -> Nat -> Option Nat
 | [], done => some done
 | (true, i) :: r, done => match rows[i]? with
   | some x => cond (!hasB done i && (jJ x.a done && wM done i x rows 0)) (my ops rows r (Nat.lor done (2 ^ i))) none
   | none => none
 | (false, i) :: r, done => match rows[i]? with
   | some x => cond (!hasB done i && (jJ x.a done && (wL done i rows 0 && !ik ops i))) (my ops rows r (Nat.lor done (2 ^ i))) none
   | none => none
section
variable {ops : Array Oper}
theorem sQ : ∀ (cM : List (Bool × Nat)) (listed : Array Bool) (done dn : Nat), fg ops.size listed done -> done < 2 ^ ops.size -> my ops (ops.toList.map (rowOf ops)) cM done = some dn ->
 ∃ l, kJ ops cM listed = some l /\ fg ops.size l dn /\ dn < 2 ^ ops.size
 | [], listed, done, dn, hm, aK, h => by
   simp only [my, fL] at h
   subst h
   exact ⟨listed, rfl, hm, aK⟩
 | (b, i) :: r, listed, done, dn, hm, aK, h => by
   obtain ⟨x, hx⟩ : ∃ x, (ops.toList.map (rowOf ops))[i]? = some x := by
    cases b <;> simp only [my] at h <;> split at h <;> first | exact ⟨_, by assumption⟩ | cases h
   obtain ⟨o, ho, rfl⟩ := s0 hx
   have hi : i < ops.size := (gV.1 ho).1
   have oB : Nat.lor done (2 ^ i) < 2 ^ ops.size := Nat.or_lt_two_pow aK (Nat.pow_lt_pow_right (by omega) hi)
   have sub : jJ (rowOf ops o).a done = true -> ∀ k, k ∈ tR o -> k < ops.size /\ done.testBit k = true := fun h2 k hk => by
    have := oq h2 k ((cR k _).2 hk)
    refine ⟨?_, this⟩
    rcases fT k ops.size with h | h
    · exact h
    · rw [Nat.testBit_lt_two_pow (Nat.lt_of_lt_of_le aK (Nat.pow_le_pow_right (by omega) h))] at this; cases this
   cases b with
   | true =>
     simp only [my, hx] at h
     cases hc : (!hasB done i && (jJ (rowOf ops o).a done && wM done i (rowOf ops o) (ops.toList.map (rowOf ops)) 0)) with
     | false => rw [hc] at h; cases h
     | true =>
       rw [hc, cond_true] at h
       simp only [bM, Bool.not_eq_true', jV] at hc
       obtain ⟨l, k1, k2, k3⟩ := sQ r _ _ dn (hm.set i) oB h
       refine ⟨l, ?_, k2, k3⟩
       have Ce : (Region.ready .any ops listed).contains i = true := by
        simp only [List.contains_iff_mem]; exact (mz hm ho).2 ⟨hc.1, sub hc.2.1⟩
       have A0 : Region.free .any ops listed i = true := AQ hm ho hc.2.2
       simp only [kJ, Ce, A0, Bool.and_self, cond_true]
       exact k1
   | false =>
     simp only [my, hx] at h
     cases hc : (!hasB done i && (jJ (rowOf ops o).a done && (wL done i (ops.toList.map (rowOf ops)) 0 && !ik ops i))) with
     | false => rw [hc] at h; cases h
     | true =>
       rw [hc, cond_true] at h
       simp only [bM, Bool.not_eq_true', jV] at hc
       obtain ⟨l, k1, k2, k3⟩ := sQ r _ _ dn (hm.set i) oB h
       refine ⟨l, ?_, k2, k3⟩
       have wU : Region.ready .any ops listed = [i] := uT hm ho hc.1 (sub hc.2.1) hc.2.2.1
       have B7 : ik ops i = false := by simpa using hc.2.2.2
       simp only [kJ, wU, B7, fK, dR, Bool.and_self, cond_true]
       exact k1
def Fm (im : Nat) (done : Nat) : List Row -> Nat -> Bool
 | [], _ => true
 | y :: r, j => (hasB done j || (hasB im j || jJ im y.a)) && Fm im done r (j + 1)
def Ir (ops : Array Oper) (rows : List Row) (I : jZ) (done : Nat) : Bool := I.l.all fun i => !hasB done i && ((jc ops I i).isSome && (match rows[i]? with | some x => jJ x.a done | none => false))
def increasing : List Nat -> Bool
 | a :: b :: l => Nat.blt a b && increasing (b :: l)
 | _ => true
def nT : List Int -> Bool
 | a :: b :: l => decide (a < b) && nT (b :: l)
 | _ => true
def xe (P : Program) (ops : Array Oper) (rows : List Row) (cM : List (Bool × Nat)) (I : jZ) (post : List (Bool × Nat)) : Bool :=
 ym (ops.toList.map (rowOf ops)) rows && ((match my ops rows cM 0 with
  | some dn => Fm (lV I.l) dn rows 0 && (Ir ops rows I dn && sO rows ops.size post (Nat.lor dn (lV I.l)))
  | none => false) && (increasing I.l && (nT (I.l.map fun i => ((jc ops I i).map (·.1)).getD 0) && (Nat.beq (cM.length + (I.l.length + post.length)) ops.size && (match mU P I.t with | some (.i, _) => true | _ => false)))))
theorem tH : ∀ l : List Nat, increasing l = true -> l.Pairwise (· < ·)
 | [], _ => List.Pairwise.nil
 | [a], _ => List.pairwise_singleton ..
 | a :: b :: l, h => by
   simp only [increasing, bM] at h
   have xJ : a < b := Nat.le_of_ble_eq_true h.1
   have ih := tH (b :: l) h.2
   refine List.Pairwise.cons (fun y hy => ?_) ih
   rcases dA.1 hy with rfl | hy
   · exact xJ
   · exact Nat.lt_trans xJ ((List.pairwise_cons.1 ih).1 y hy)
theorem rG : ∀ l : List Int, nT l = true -> l.Pairwise (· < ·)
 | [], _ => List.Pairwise.nil
 | [a], _ => List.pairwise_singleton ..
 | a :: b :: l, h => by
   simp only [nT, bM, dD] at h
   have ih := rG (b :: l) h.2
   refine List.Pairwise.cons (fun y hy => ?_) ih
   rcases dA.1 hy with rfl | hy
   · exact h.1
   · exact Int.lt_trans h.1 ((List.pairwise_cons.1 ih).1 y hy)
theorem zK {im done : Nat} : ∀ {l : List Row} {j : Nat}, Fm im done l j = true -> ∀ k y, l[k]? = some y -> (done.testBit (j + k) = true \/ im.testBit (j + k) = true \/ jJ im y.a = true)
 | [], _, _, k, y, hy => by simp at hy
 | z :: r, j, h, k, y, hy => by
   simp only [Fm, bM, hZ, jV] at h
   cases k with
   | zero => simp at hy; subst hy; exact h.1
   | succ k =>
     have := zK h.2 k y (by simpa using hy)
     rw [show j + (k + 1) = j + 1 + k by omega]; exact this
theorem fg.er {n : Nat} : ∀ (l : List Nat) (listed : Array Bool) (done : Nat), fg ops.size listed done -> fg ops.size (Go.Rip.er listed l) (Nat.lor done (lV l))
 | [], listed, done, h => by
   show fg ops.size listed (done ||| 0)
   rw [Nat.or_zero]; exact h
 | i :: l, listed, done, h => by
   have := fg.er (n := n) l _ _ (h.set i)
   show fg ops.size (Go.Rip.er (listed.setIfInBounds i true) l) (done ||| (2 ^ i ||| lV l))
   rw [<- Nat.or_assoc]; exact this
theorem DY {P : Program} {rows : List Row} {cM : List (Bool × Nat)} {I : jZ} {post : List (Bool × Nat)} (h : xe P ops rows cM I post = true) : qt P ops cM I post = true := by
 simp only [xe, bM] at h
 obtain ⟨h1, h2, h3, h4, h5, h6⟩ := h
 rw [<- xj h1] at h2
 split at h2
 · rename_i dn hd
   simp only [bM] at h2
   obtain ⟨b1, b2, b3⟩ := h2
   obtain ⟨l, k1, k2, k3⟩ := sQ cM (Array.replicate ops.size false) 0 dn ⟨by simp, fun k hk => by simp [hk]⟩ (Nat.two_pow_pos _) hd
   have X9 := tH _ h3
   have Vv := rG _ h4
   simp only [Ir, eh, bM, Bool.not_eq_true', jV] at b2
   have sw : ∀ i ∈ I.l, ∃ o, ops[i]? = some o /\ jJ (rowOf ops o).a dn = true := fun i hi => by
    have := (b2 i hi).2.2
    split at this
    · rename_i x hx
      obtain ⟨o, ho, rfl⟩ := s0 hx
      exact ⟨o, ho, this⟩
    · cases this
   have aK : ∀ i ∈ I.l, i < ops.size := fun i hi => by
    obtain ⟨o, ho, _⟩ := sw i hi
    exact (gV.1 ho).1
   have him : lV I.l < 2 ^ ops.size := by
    have : ∀ l : List Nat, (∀ i ∈ l, i < ops.size) -> lV l < 2 ^ ops.size := fun l => by
     induction l with
     | nil => intro _; exact Nat.two_pow_pos _
     | cons i l ih => intro hh; exact Nat.or_lt_two_pow (Nat.pow_lt_pow_right (by omega) (hh i (by simp))) (ih fun j hj => hh j (by simp [hj]))
    exact this _ aK
   have Qs : ∀ {o : Oper} {m : Nat}, m < 2 ^ ops.size -> jJ (rowOf ops o).a m = true -> ∀ e ∈ o.after, Region.binds .any e = true -> m.testBit e.on = true := fun {o m} H3 hs e he hb =>
    oq hs e.on ((cR _ _).2 (o6.2 ⟨e, he, hb, rfl⟩))
   simp only [qt, k1, bM]
   refine ⟨⟨?_, sP post _ _ (fg.er (n := 0) I.l l dn k2) (Nat.or_lt_two_pow k3 him) b3⟩, h5, h6⟩
   simp only [mv, yT, bM, eh, List.mem_range, hZ, dD, Bool.not_eq_true']
   refine ⟨fun j hj => ?_, fun i hi => ?_, ?_, fun i hi => ⟨?_, (b2 i hi).2.1, ?_⟩, X9.imp (fun h => Nat.ne_of_lt h), Vv.imp (fun h => Int.ne_of_lt h)⟩
   · obtain ⟨o, ho⟩ : ∃ o, ops[j]? = some o := ⟨ops[j], by simp [hj]⟩
     have hy : (ops.toList.map (rowOf ops))[j]? = some (rowOf ops o) := by rw [jE]; simp [ho]
     rcases zK b1 j _ hy with h | h | h
     · left; rw [k2.get hj]; simpa using h
     · right; left
       have := (cR _ _).1 h
       simpa using this
     · right; right
       rw [ho]
       show (I.l.all fun i => o.after.toList.any fun e => Region.binds .any e && Nat.beq e.on i) = true
       rw [eh]
       intro i hi
       have := oq h i ((cR _ _).2 hi)
       obtain ⟨e, he, hb, xW⟩ := o6.1 ((cR _ _).1 this)
       rw [List.any_eq_true]
       exact ⟨e, by simpa using he, by simp [hb, xW]⟩
   · rw [k2.get (aK i hi)]; exact (b2 i hi).1
   · rw [k2.1]; simp
   · show Nat.ble (i + 1) ops.size = true
     exact Nat.ble_eq_true_of_le (aK i hi)
   · obtain ⟨o, ho, hs⟩ := sw i hi
     rw [ho]
     simp only [AX, eh, hZ, Bool.not_eq_true']
     intro e he
     cases hb : Region.binds .any e with
     | false => exact .inl rfl
     | true =>
       right
       have ht := Qs k3 hs e (by simpa using he) hb
       have oB : e.on < ops.size := by
        rcases fT e.on ops.size with h | h
        · exact h
        · rw [Nat.testBit_lt_two_pow (Nat.lt_of_lt_of_le k3 (Nat.pow_le_pow_right (by omega) h))] at ht; cases ht
       rw [k2.get oB]; exact ht
 · cases h2
end
end Go.Rip
namespace Go.Rip
open Go.RowKit
inductive T (α : Type) where
 | e
 | n (l : T α) (v : Option α) (r : T α)
theorem uG {a b : Nat} (h : a ≠ b) : Nat.beq a b = false := by
 cases hb : Nat.beq a b with
 | false => rfl
 | true => exact absurd (dG hb) h
theorem Gu {a b : Nat} (h : a = b) : Nat.beq a b = true := by subst h; exact Nat.beq_refl a
namespace T
variable {α : Type}
def get : T α -> Nat -> Option α
 | .e, _ => none
 | .n l v r, i => cond (Nat.beq i 0) v (cond (Nat.beq (i % 2) 1) (l.get (i / 2)) (r.get (i / 2 - 1)))
def s9 : Nat -> T α -> Nat -> Option α -> T α
 | 0, t, _, _ => t
 | f + 1, .e, i, v => cond (Nat.beq i 0) (.n .e v .e) (cond (Nat.beq (i % 2) 1) (.n (s9 f .e (i / 2) v) none .e) (.n .e none (s9 f .e (i / 2 - 1) v)))
 | f + 1, .n l w r, i, v => cond (Nat.beq i 0) (.n l v r) (cond (Nat.beq (i % 2) 1) (.n (s9 f l (i / 2) v) w r) (.n l w (s9 f r (i / 2 - 1) v)))
def set (t : T α) (i : Nat) (v : Option α) : T α := s9 (i + 1) t i v
theorem LK : ∀ (f : Nat) (t : T α) (i j : Nat) (v : Option α), i < f -> (s9 f t i v).get j = if j = i then v else t.get j := by
 intro f
 induction f with
 | zero => intro t i j v h; omega
 | succ f ih =>
   intro t i j v h
   have key : ∀ (l r : T α) (w : Option α), (cond (Nat.beq i 0) (.n l v r) (cond (Nat.beq (i % 2) 1) (.n (s9 f l (i / 2) v) w r) (.n l w (s9 f r (i / 2 - 1) v))) : T α).get j = if j = i then v else (T.n l w r).get j := fun l r w => by
    by_cases hi : i = 0
    · subst hi
      simp only [Nat.beq_refl, cond_true, get]
      by_cases hj : j = 0
      · subst hj; simp
      · have : Nat.beq j 0 = false := uG hj
        simp [this, hj]
    · have BY : Nat.beq i 0 = false := uG hi
      rw [BY, cond_false]
      by_cases h1 : i % 2 = 1
      · have hb : Nat.beq (i % 2) 1 = true := Gu h1
        rw [hb, cond_true]
        simp only [get]
        by_cases hj : j = 0
        · subst hj
          have : (0 : Nat) ≠ i := fun e => hi e.symm
          simp [this]
        · have zZ : Nat.beq j 0 = false := uG hj
          rw [zZ, cond_false, cond_false]
          by_cases tE : j % 2 = 1
          · have BZ : Nat.beq (j % 2) 1 = true := Gu tE
            rw [BZ, cond_true, cond_true, ih _ _ _ _ (by omega)]
            by_cases e : j = i
            · subst e; simp
            · rw [if_neg (by omega), if_neg e]
          · have BZ : Nat.beq (j % 2) 1 = false := uG tE
            rw [BZ, cond_false, cond_false, if_neg (by omega)]
      · have hb : Nat.beq (i % 2) 1 = false := uG h1
        rw [hb, cond_false]
        simp only [get]
        by_cases hj : j = 0
        · subst hj
          have : (0 : Nat) ≠ i := fun e => hi e.symm
          simp [this]
        · have zZ : Nat.beq j 0 = false := uG hj
          rw [zZ, cond_false, cond_false]
          by_cases tE : j % 2 = 1
          · have BZ : Nat.beq (j % 2) 1 = true := Gu tE
            rw [BZ, cond_true, cond_true, if_neg (by omega)]
          · have BZ : Nat.beq (j % 2) 1 = false := uG tE
            rw [BZ, cond_false, cond_false, ih _ _ _ _ (by omega)]
            by_cases e : j = i
            · subst e; simp
            · rw [if_neg (by omega), if_neg e]
   cases t with
   | n l w r => exact key l r w
   | e =>
     have := key .e .e none
     simp only [s9]
     rw [this]
     congr 1
     simp only [get]
     cases Nat.beq j 0 <;> cases Nat.beq (j % 2) 1 <;> rfl
theorem o8 (t : T α) (i j : Nat) (v : Option α) : (t.set i v).get j = if j = i then v else t.get j := LK _ _ _ _ _ (by omega)
def ET : List α -> Nat -> T α -> T α
 | [], _, t => t
 | x :: xs, i, t => ET xs (i + 1) (t.set i (some x))
theorem Ek : ∀ (l : List α) (i : Nat) (t : T α) (j : Nat), (ET l i t).get j = if i <= j /\ j < i + l.length then l[j - i]? else t.get j
 | [], i, t, j => by simp [ET]; omega
 | x :: xs, i, t, j => by
   simp only [ET]
   rw [Ek xs (i + 1) _ j, o8]
   by_cases h1 : i + 1 <= j /\ j < i + 1 + xs.length
   · rw [if_pos h1, if_pos (by simp; omega)]
     have : j - i = (j - (i + 1)) + 1 := by omega
     rw [this]; simp
   · rw [if_neg h1]
     by_cases h2 : j = i
     · subst h2; simp
     · rw [if_neg h2, if_neg (by simp; omega)]
end T
def dK (t : T AV) : Env := ⟨fun i => (t.get i).getD (.aN [])⟩
theorem HD (t : T AV) (d : Nat) (v : AV) : dK (t.set d (some v)) = (dK t).put d v := by
 simp only [dK, Env.put, Env.mk.injEq]
 funext i
 rw [T.o8]
 split <;> rfl
def uN (t : T AV) : Option Nat -> AV -> T AV
 | some d, v => t.set d (some v)
 | none, _ => t
theorem mi (t : T AV) (d : Option Nat) (v : AV) : dK (uN t d v) = (dK t).dk d v := by
 cases d with
 | none => rfl
 | some d => exact HD t d v
theorem Fy (l : List AV) : dK (T.ET l 0 .e) = Env.gg l := by
 simp only [dK, Env.gg, Env.mk.injEq]
 funext i
 rw [T.Ek]
 by_cases h : i < l.length
 · rw [if_pos (by omega)]; simp [zp]
 · rw [if_neg (by omega)]
   simp [T.get, zp, mb (Nat.le_of_not_lt h)]
structure ES where
 live : T Live
 n : Nat
def br (e : ES) : St := ⟨fun b => e.live.get b, some e.n⟩
def ES.set (e : ES) (b : Nat) (x : Live) : ES := ⟨e.live.set b (some x), e.n⟩
def ES.del (e : ES) (b : Nat) : ES := ⟨e.live.set b none, e.n⟩
def ES.oz (e : ES) : Option Nat -> ES
 | some b => e.del b
 | none => e
def ES.new (e : ES) (x : Live) : ES := ⟨e.live.set e.n (some x), e.n + 1⟩
theorem jH (e : ES) (b : Nat) (x : Live) : br (e.set b x) = (br e).set b x := by
 simp only [br, ES.set, St.set, St.mk.injEq, and_true]
 funext y; rw [T.o8]
theorem xm (e : ES) (b : Nat) : br (e.del b) = (br e).del b := by
 simp only [br, ES.del, St.del, St.mk.injEq, and_true]
 funext y; rw [T.o8]
theorem KU (e : ES) (b : Option Nat) : br (e.oz b) = (br e).oz b := by
 cases b with
 | none => rfl
 | some b => exact xm e b
theorem nM (e : ES) (x : Live) : br (e.new x) = (br e).new e.n x := by
 simp only [br, ES.new, St.new, St.mk.injEq, Option.map_some, and_true]
 funext y; rw [T.o8]
def LC : Fn -> Fn -> Bool
 | .func a, .func b => Nat.beq a b
 | _, _ => false
theorem Pw {a b : Fn} (h : LC a b = true) : a = b := by
 cases a <;> cases b <;> simp only [LC, bu] at h
 rw [dG h]
def Fz : hX -> hX -> Bool
 | .full, .full => true
 | .own a, .own b => Nat.beq a b
 | .gl, .gl => true
 | _, _ => false
theorem LB {a b : hX} (h : Fz a b = true) : a = b := by
 cases a <;> cases b <;> simp only [Fz, bu] at h <;> first
  | rfl
  | rw [dG h]
mutual
def fR : AV -> AV -> Bool
 | .bool a, .bool b => a == b
 | .int k a, .int k' b => decide (k = k') && decide (a = b)
 | .str a, .str b => decide (a = b)
 | .aT, .aT | .ag, .ag | .jf, .jf | .cP, .cP | .cA, .cA => true
 | .box a i, .box b j => Nat.beq a b && Nat.beq i j
 | .bY l, .bY l' => lx l l'
 | .vec n c l, .vec n' c' l' => Nat.beq n n' && Fz c c' && lx l l'
 | .ms b o n z e, .ms b' o' n' z' e' => Nat.beq b b' && Nat.beq o o' && Nat.beq n n' && Nat.beq z z' && Nat.beq e e'
 | .mp a, .mp b => Nat.beq a b
 | .dY ks vs, .dY ks' vs' => lx ks ks' && lx vs vs'
 | .func f a b, .func f' a' b' => LC f f' && lx a a' && lx b b'
 | .iface t v, .iface t' v' => Nat.beq t t' && fR v v'
 | .agg l, .agg l' => lx l l'
 | .aN l, .aN l' => lx l l'
 | .oy a, .oy b => Nat.beq a b
 | .it a, .it b => Nat.beq a b
 | .any, .any => true
 | _, _ => false
def lx : List AV -> List AV -> Bool
 | [], [] => true
 | x :: xs, y :: ys => fR x y && lx xs ys
 | _, _ => false
end
mutual
theorem rn : ∀ {a b : AV}, fR a b = true -> a = b
 | .bool a, b, h => by cases b <;> simp only [fR, bu] at h; simpa using h
 | .int k a, b, h => by cases b <;> simp only [fR, bu] at h; simpa using h
 | .str a, b, h => by cases b <;> simp only [fR, bu] at h; simpa using h
 | .aT, b, h => by cases b <;> simp only [fR, bu] at h; rfl
 | .ag, b, h => by cases b <;> simp only [fR, bu] at h; rfl
 | .jf, b, h => by cases b <;> simp only [fR, bu] at h; rfl
 | .cP, b, h => by cases b <;> simp only [fR, bu] at h; rfl
 | .cA, b, h => by cases b <;> simp only [fR, bu] at h; rfl
 | .box a i, b, h => by cases b <;> simp only [fR, bu, bM] at h; rw [dG h.1, dG h.2]
 | .bY l, b, h => by cases b <;> simp only [fR, bu] at h; rw [gN h]
 | .vec n c l, b, h => by cases b <;> simp only [fR, bu, bM] at h; rw [dG h.1.1, LB h.1.2, gN h.2]
 | .ms b o n z e, b', h => by
   cases b' <;> simp only [fR, bu, bM] at h
   rw [dG h.1.1.1.1, dG h.1.1.1.2, dG h.1.1.2, dG h.1.2, dG h.2]
 | .mp a, b, h => by cases b <;> simp only [fR, bu] at h; rw [dG h]
 | .dY ks vs, b, h => by cases b <;> simp only [fR, bu, bM] at h; rw [gN h.1, gN h.2]
 | .func f a b, b', h => by cases b' <;> simp only [fR, bu, bM] at h; rw [Pw h.1.1, gN h.1.2, gN h.2]
 | .iface t v, b, h => by cases b <;> simp only [fR, bu, bM] at h; rw [dG h.1, rn h.2]
 | .agg l, b, h => by cases b <;> simp only [fR, bu] at h; rw [gN h]
 | .aN l, b, h => by cases b <;> simp only [fR, bu] at h; rw [gN h]
 | .oy a, b, h => by cases b <;> simp only [fR, bu] at h; rw [dG h]
 | .it a, b, h => by cases b <;> simp only [fR, bu] at h; rw [dG h]
 | .any, b, h => by cases b <;> simp only [fR, bu] at h; rfl
theorem gN : ∀ {a b : List AV}, lx a b = true -> a = b
 | [], b, h => by cases b <;> simp only [lx, bu] at h; rfl
 | x :: xs, b, h => by cases b <;> simp only [lx, bu, bM] at h; rw [rn h.1, gN h.2]
end
def BE : Option Live -> Option Live -> Bool
 | some (.box l), some (.box l') => lx l l'
 | some (.mp a b), some (.mp a' b') => lx a a' && lx b b'
 | _, _ => false
theorem HE {a b : Option Live} (h : BE a b = true) : a = b := by
 unfold BE at h
 split at h
 · rw [gN h]
 · simp only [bM] at h; rw [gN h.1, gN h.2]
 · cases h
end Go.Rip
namespace Go.Rip
open Go.RowKit
structure fx where
 C : bX
 mu : Nat -> List Nat
 pf : Nat -> Bool
 sm : Nat -> List AV -> Option AV
 OS : Nat -> List AV -> ES -> Option (AV × ES)
 tr : Nat -> Bool
 ft : TypeId
 ins : Nat -> Nat -> Option (List Row × List (Bool × Nat) × jZ × List (Bool × Nat)) := fun _ _ => none
abbrev KR := cu -> ES -> Bool
abbrev KC := Ex -> T AV -> ES -> Bool
abbrev oM := Nat -> List AV -> ES -> KR -> Bool
def rK (k kp : AV -> ES -> Bool) : KR
 | .ret v, e => k v e
 | .panic v, e => kp v e
def vI (cf cy : oM) (e : ES) : aA -> (AV -> ES -> Bool) -> (AV -> ES -> Bool) -> Bool
 | .val v, k, _ => k v e
 | .iN v b x, k, _ => k v (e.set b x)
 | .new kd del x, k, _ => k (kd.at e.n) ((e.oz del).new x)
 | .il b l, k, _ => l.all fun p => k p.1 (e.set b p.2)
 | .enter f args, k, kp => cf f args e (rK k kp)
 | .yield o args, k, kp => cy o args e (rK k kp)
 | .panic v, _, kp => kp v e
 | @aA.cond p d r, k, kp => (@decide p d) && vI cf cy e r k kp
 | .bad, _, _ => false
def xD (V : fx) (cf cy : oM) (mu : List Nat) (ops : Array Oper) : List Oper -> T AV -> ES -> (T AV -> ES -> Bool) -> (AV -> ES -> Bool) -> Bool
 | [], ρ, e, k, _ => k ρ e
 | o :: rest, ρ, e, k, kp => match eV ops (dK ρ) o.guard with
   | .bool true => vI cf cy e (gh V.C (lA mu o) o.op (dK ρ) (br e)) (fun v e' => xD V cf cy mu ops rest (uN ρ o.dst v) e' k kp) kp
   | .bool false => xD V cf cy mu ops rest (uN ρ o.dst (.aN [])) e k kp
   | _ => false
def Fh (V : fx) : aA -> Option AV
 | .val v => some v
 | @aA.cond p d r => cond (@decide p d) (Fh V r) none
 | .enter f args => V.sm f args
 | _ => none
def GK (B : List Nat) (e0 e : ES) : Bool := B.all fun b => BE (e.live.get b) (e0.live.get b)
def za (C : bX) (B : List Nat) (ρ : Env) (op : Op) : Bool := op.operands.toList.all fun x => (bV (ρ.ev C x)).all fun b => B.any fun c => Nat.beq c b
def lI (V : fx) (cf cy : oM) (mu : List Nat) (ops : Array Oper) (B : List Nat) (e0 : ES) : List (Bool × Nat) -> T AV -> ES -> (T AV -> ES -> Bool) -> (AV -> ES -> Bool) -> Bool
 | [], ρ, e, k, _ => k ρ e
 | (true, i) :: r, ρ, e, k, kp => match ops[i]? with
   | none => false
   | some o => match eV ops (dK ρ) o.guard with
     | .bool true => quiet o.op && (!lj o.op || za V.C B (dK ρ) o.op) && (match Fh V (gh V.C (lA mu o) o.op (dK ρ) (br e0)) with
       | some v => lI V cf cy mu ops B e0 r (uN ρ o.dst v) e k kp
       | none => false)
     | .bool false => lI V cf cy mu ops B e0 r (uN ρ o.dst (.aN [])) e k kp
     | _ => false
 | (false, i) :: r, ρ, e, k, kp => match ops[i]? with
   | none => false
   | some o => match eV ops (dK ρ) o.guard with
     | .bool true => vI cf cy e (gh V.C (lA mu o) o.op (dK ρ) (br e)) (fun v e' => (GK B e0 e' || ik ops i) && lI V cf cy mu ops B e0 r (uN ρ o.dst v) e' k kp) kp
     | .bool false => lI V cf cy mu ops B e0 r (uN ρ o.dst (.aN [])) e k kp
     | _ => false
def I7 (V : fx) (o : Oper) : Bool := match o.op with
 | .call c => match c.callee with
   | .value (.func f) => V.pf f
   | .value _ => false
   | _ => quiet o.op
 | op => quiet op
def uF (V : fx) (ops : Array Oper) : Nat -> Array Bool -> List (Bool × Nat)
 | 0, _ => []
 | n + 1, listed => match (Region.ready .any ops listed).find? fun i => match ops[i]? with | some o => I7 V o | none => false with
   | some i => (true, i) :: uF V ops n (listed.setIfInBounds i true)
   | none => match Region.ready .any ops listed with
     | i :: _ => (false, i) :: uF V ops n (listed.setIfInBounds i true)
     | [] => []
def preB (V : fx) (mu : List Nat) (e0 : ES) : List Oper -> T AV -> List Nat -> List Nat
 | [], _, B => B
 | o :: r, ρ, B => preB V mu e0 r (uN ρ o.dst (cond (I7 V o) ((Fh V (gh V.C (lA mu o) o.op (dK ρ) (br e0))).getD .any) .any)) (cond (lj o.op) (o.op.operands.toList.flatMap (fun x => bV ((dK ρ).ev V.C x)) ++ B) B)
def Gn (P : Program) (ty : TypeId) (p : AV) (U : St) : Option AV := match qk P ty p U with
 | .val v => some v
 | @aA.cond q d (.val v) => cond (@decide q d) (some v) none
 | _ => none
def xi (P : Program) (ρ : Env) (U : St) : List ResultVar -> Option (List AV)
 | [] => some []
 | .tmp t :: rs => (xi P ρ U rs).map fun vs => ρ.get t :: vs
 | .cell t ty :: rs => match Gn P ty (ρ.get t) U with
   | some v => (xi P ρ U rs).map fun vs => v :: vs
   | none => none
abbrev pW := Nat -> List Nat -> Nat -> Ro -> Code -> T AV -> ES -> KC -> Bool
def Ly (P : Program) (fn : Func) (k : KR) : KC := fun ex ρ e => match ex with
 | .normal | .ret => match xi P (dK ρ) (br e) fn.results.toList with
   | some vs => k (.ret (qY vs)) e
   | none => false
 | .panic x => k (.panic x) e
 | .exit _ => false
def Db (ft : TypeId) (a : Nat) (k : KR) : KR
 | .ret v, e => match (br e).box a, (br e).box (a + 1), (br e).box (a + 2) with
   | some [_], some [_], some [_] => v.scalar && k (.ret (.aN [v, .int .i64 0, .bool true])) (((e.set a (.box [v])).set (a + 1) (.box [.int .i64 0])).set (a + 2) (.box [.bool true]))
   | _, _, _ => false
 | .panic x, e => match x, (br e).box a, (br e).box (a + 1), (br e).box (a + 2) with
   | .iface t (.agg [.int .i64 at_]), some [_], some [_], some [_] => Nat.beq t ft && k (.ret (.aN [.aT, .int .i64 at_, .bool false])) ((((e.new (.box [.int .i64 at_])).set a (.box [.aT])).set (a + 1) (.box [.int .i64 at_])).set (a + 2) (.box [.bool false]))
   | _, _, _, _ => false
def AY (V : fx) (ev : pW) : oM := fun f args e k =>
 match V.sm f args with
 | some x => k (.ret x) e
 | none => match V.OS f args e with
   | some (x, e') => k (.ret x) e'
   | none => match V.C.P.funcs[f]? with
     | some fn => match fn.body with
       | some c => Nat.ble args.length fn.ntmps && ev fn.ntmps (V.mu f) f .fn c (T.ET args 0 .e) e (Ly V.C.P fn k)
       | none => false
     | none => false
def TH (e : ES) : ES := ((e.new (.box [.aT])).new (.box [.int .i64 0])).new (.box [.bool false])
def oP (V : fx) (ev : pW) : oM := fun f args e k =>
 cond (V.tr f) (match args with
  | [_, .func (.func g) first cap] => dj V.C.P g && AY V ev g (first ++ cap) (TH e) (Db V.ft e.n k)
  | _ => false) (AY V ev f args e k)
def endRound (o : Nat) (k : KR) : KC := fun ex _ e => match (br e).loop o with
 | some L => match ex with
   | .normal => k (.ret (.bool true)) (e.set o (.loop { L with state := .ready, ee := none }))
   | .ret => k (.ret (.bool false)) (e.set o (.loop { L with state := .done, ee := some .ret }))
   | .exit id => k (.ret (.bool false)) (e.set o (.loop { L with state := .done, ee := some (.exit id) }))
   | .panic _ => false
 | none => false
def isReady : LoopState -> Bool
 | .ready => true
 | _ => false
def Im : LoopState -> Bool
 | .busy => true
 | _ => false
def nN (f : Nat -> AV) : Nat -> T AV -> T AV
 | 0, t => t
 | n + 1, t => nN f n (t.set n (some (f n)))
def sa (V : fx) (ev : pW) : oM := fun o args e k =>
 match (br e).loop o with
 | some L => Nat.beq args.length L.params.size && L.params.toList.all (fun t => Nat.blt t L.nt) &&
   ev L.nt (V.mu L.tag) L.tag (.round o) L.assign (nN (sR L.ρ L.params.toList args) L.nt .e) e (fun ex ρ e => match ex with
    | .normal => match (br e).loop o with
      | some L' => isReady L'.state && ev L.nt (V.mu L.tag) L.tag (.round o) L.body ρ (e.set o (.loop { L' with state := .busy })) (endRound o k)
      | none => false
    | _ => false)
 | none => false
def BD (o : Nat) (ρ : T AV) (k : KC) : KR
 | .ret _, e => match (br e).loop o with
   | some L => !Im L.state && (match L.ee with
     | none => k .normal ρ (e.del o)
     | some .ret => k .ret ρ (e.del o)
     | some (.exit id) => k (.exit id) ρ (e.del o)
     | _ => false)
   | none => false
 | .panic x, e => k (.panic x) .e e
def L9 (V : fx) (ops : Array Oper) (B : List Nat) (I : jZ) (ρ : T AV) (e : ES) (k : T AV -> ES -> Bool) : Bool := match (dK ρ).get I.m with
 | .mp id => (match (br e).mp id with | some ([], []) => true | _ => false) && (B.all (fun b => !Nat.beq b id) && k ρ (e.set id (.mp (lM I.kk (jW V.C ops (dK ρ) I) ([], [])).1 (lM I.kk (jW V.C ops (dK ρ) I) ([], [])).2)))
 | _ => false
def ki (V : fx) : Nat -> pW
 | 0 => fun _ _ _ _ _ _ _ _ => false
 | n + 1 => fun nt mu tag ro c ρ e k =>
   match c with
   | .skip => k .normal ρ e
   | .exit id => k (.exit id) ρ e
   | .ret => k .ret ρ e
   | .seq a b => ki V n nt mu tag ro a ρ e fun ex ρ e => match ex with
     | .normal => ki V n nt mu tag ro b ρ e k
     | ex => k ex ρ e
   | .cond x a b => match (dK ρ).ev V.C x with
     | .bool true => ki V n nt mu tag ro a ρ e k
     | .bool false => ki V n nt mu tag ro b ρ e k
     | _ => false
   | .block id a => ki V n nt mu tag ro a ρ e fun ex ρ e => match ex with
     | .exit wg => cond (Nat.beq wg id) (k .normal ρ e) (k (.exit wg) ρ e)
     | ex => k ex ρ e
   | .loop a => ki V n nt mu tag ro a ρ e fun ex ρ e => match ex with
     | .normal => ki V n nt mu tag ro (.loop a) ρ e k
     | ex => k ex ρ e
   | .region _ ops false => iu nt ops && xD V (oP V (ki V n)) (sa V (ki V n)) mu ops ops.toList ρ e (fun ρ e => k .normal ρ e) (fun x e => k (.panic x) .e e)
   | .region id ops true => match V.ins tag id with
     | none => iu nt ops && (fi ops (uF V ops ops.size (Array.replicate ops.size false)) (Array.replicate ops.size false) && ((uF V ops ops.size (Array.replicate ops.size false)).length == ops.size)) &&
     lI V (oP V (ki V n)) (sa V (ki V n)) mu ops (preB V mu e ops.toList ρ []) e (uF V ops ops.size (Array.replicate ops.size false)) ρ e (fun ρ e => k .normal ρ e) (fun x e => k (.panic x) .e e)
     | some (rows, cM, I, post) => iu nt ops && (xe V.C.P ops rows cM I post && lI V (oP V (ki V n)) (sa V (ki V n)) mu ops (preB V mu e ops.toList ρ []) e cM ρ e (fun cT e' => L9 V ops (preB V mu e ops.toList ρ []) I cT e' (fun cT e' => lI V (oP V (ki V n)) (sa V (ki V n)) mu ops (preB V mu e ops.toList ρ []) e post cT e' (fun ρ e => k .normal ρ e) (fun x e => k (.panic x) .e e))) (fun x e => k (.panic x) .e e))
   | .rangeFunc f ps assign body => match ro, (dK ρ).ev V.C f with
     | .fn, .func (.func gu) first cap => dj V.C.P gu && oP V (ki V n) gu (first ++ [.oy e.n] ++ cap) (e.new (.loop ⟨(dK ρ).get, nt, ps, assign, body, .ready, none, tag⟩)) (BD e.n ρ k)
     | _, _ => false
   | _ => false
def kR (k : KR) : cu -> St -> Prop := fun r U => ∃ e, U = br e /\ k r e = true
def kA (k : AV -> ES -> Bool) : AV -> St -> Prop := fun v U => ∃ e, U = br e /\ k v e = true
def kE (k : T AV -> ES -> Bool) : Env -> St -> Prop := fun ρ U => ∃ t e, ρ = dK t /\ U = br e /\ k t e = true
def kC (k : KC) : Ex -> Env -> St -> Prop
 | .panic x, _, U => ∃ e, U = br e /\ k (.panic x) .e e = true
 | ex, ρ, U => ∃ t e, ρ = dK t /\ U = br e /\ k ex t e = true
def Dc (ft : TypeId) (a b c : Nat) (R : cu -> St -> Prop) : cu -> St -> Prop
 | .ret v, U => v.scalar = true /\ (∃ x, U.box a = some [x]) /\ (∃ x, U.box b = some [x]) /\ (∃ x, U.box c = some [x]) /\ R (.ret (.aN [v, .int .i64 0, .bool true])) (((U.bN a [v]).bN b [.int .i64 0]).bN c [.bool true])
 | .panic x, U => ∃ at_, x = .iface ft (.agg [.int .i64 at_]) /\ (∃ x, U.box a = some [x]) /\ (∃ x, U.box b = some [x]) /\ (∃ x, U.box c = some [x]) /\
    ∀ q, U.cB q -> R (.ret (.aN [.aT, .int .i64 at_, .bool false])) ((((U.new q (.box [.int .i64 at_])).bN a [.aT]).bN b [.int .i64 at_]).bN c [.bool false])
def D8 (C : bX) (ft : TypeId) (f : Nat) : Prop := ∀ r g first cap U R, dj C.P g = true ->
 (∀ a b c, U.cB a -> (U.new a (.box [.aT])).cB b -> ((U.new a (.box [.aT])).new b (.box [.int .i64 0])).cB c ->
   ae C g (first ++ cap) (((U.new a (.box [.aT])).new b (.box [.int .i64 0])).new c (.box [.bool false])) (Dc ft a b c R)) -> ae C f [r, .func (.func g) first cap] U R
structure nz (V : fx) : Prop where
 sm : ∀ f args x, V.sm f args = some x -> Pure V.C f args x
 OS : ∀ f args e x e', V.OS f args e = some (x, e') -> ∀ R, R (.ret x) (br e') -> ae V.C f args (br e) R
 tr : ∀ f, V.tr f = true -> D8 V.C V.ft f
 mixed : V.C.P.follows .mixedOrders = true
def tO (V : fx) (cf : oM) : Prop := ∀ f args e k, cf f args e k = true -> ae V.C f args (br e) (kR k)
def ve (V : fx) (cy : oM) : Prop := ∀ o args e k, cy o args e k = true -> iY V.C o args (br e) (kR k)
def rj (V : fx) (ev : pW) : Prop := ∀ nt mu tag ro c ρ e k, ev nt mu tag ro c ρ e k = true -> aY V.C nt ro c (kC k) (dK ρ) (br e)
theorem o7 {e : ES} {b : Nat} (h : (br e).cB b) : b = e.n := h.2 _ rfl
theorem HA (e : ES) (d : Option Nat) : (e.oz d).n = e.n := by cases d <;> rfl
section
variable {V : fx} {cf cy : oM}
theorem xk (hf : tO V cf) (hy : ve V cy) {e : ES} {k kp : AV -> ES -> Bool} : ∀ (r : aA), vI cf cy e r k kp = true -> r.wp V.C (br e) (kA k) (kA kp)
 | .val v, h => ⟨e, rfl, h⟩
 | .iN v b x, h => ⟨e.set b x, (jH e b x).symm, h⟩
 | .new kd del x, h => fun b hb => by
   rw [<- KU] at hb ⊢
   have := o7 hb
   rw [HA] at this
   subst this
   exact ⟨(e.oz del).new x, by rw [nM, HA], h⟩
 | .il b l, h => fun p hp => by
   simp only [vI, eh] at h
   exact ⟨e.set b p.2, (jH e b p.2).symm, h p hp⟩
 | .enter f args, h => (hf f args e _ h).mono fun r U hr => by cases r <;> exact hr
 | .yield o args, h => (hy o args e _ h).mono fun r U hr => by cases r <;> exact hr
 | .panic v, h => ⟨e, rfl, h⟩
 | @aA.cond p d r, h => by
   simp only [vI, bM] at h
   exact ⟨@of_decide_eq_true p d h.1, xk hf hy r h.2⟩
 | .bad, h => by cases h
theorem Pz {ops : Array Oper} {B : List Nat} {I : jZ} {k : T AV -> ES -> Bool} (ρ : T AV) (e : ES) (h : L9 V ops B I ρ e k = true) : F5 V.C ops B I (kE k) (dK ρ) (br e) := by
 unfold L9 at h
 split at h
 · rename_i id hid
   simp only [bM, eh, Bool.not_eq_true'] at h
   obtain ⟨h1, h2, h3⟩ := h
   split at h1
   · rename_i B6
     refine ⟨id, hid, B6, fun hm => ?_, ρ, _, rfl, (jH e id _).symm, h3⟩
     have := h2 id hm
     simp at this
   · cases h1
 · cases h
theorem wS (hf : tO V cf) (hy : ve V cy) {mu : List Nat} {ops : Array Oper} {k : T AV -> ES -> Bool} {kp : AV -> ES -> Bool} : ∀ (l : List Oper) (ρ : T AV) (e : ES), xD V cf cy mu ops l ρ e k kp = true ->
 lC V.C mu ops l (dK ρ) (br e) (kE k) (kA kp)
 | [], ρ, e, h => ⟨ρ, e, rfl, rfl, h⟩
 | o :: rest, ρ, e, h => by
   simp only [xD] at h
   simp only [lC]
   split at h
   · rename_i hg
     rw [hg]
     refine ⟨fun _ => ?_, fun h => (by cases h)⟩
     refine aA.wp_mono ?_ _ (xk hf hy _ h)
     rintro v U ⟨e', rfl, hk⟩
     have := wS hf hy rest _ e' hk
     rw [mi] at this
     exact this
   · rename_i hg
     rw [hg]
     refine ⟨fun h => (by cases h), fun _ => ?_⟩
     have := wS hf hy rest _ e h
     rw [mi] at this
     exact this
   · cases h
theorem Lh (hV : nz V) : ∀ (r : aA) (v : AV), Fh V r = some v -> r.yv V.C v
 | .val u, v, h => by simp only [Fh, fL] at h; exact h
 | @aA.cond p d r, v, h => by
   simp only [Fh] at h
   cases hd : @decide p d with
   | false => rw [hd] at h; cases h
   | true => rw [hd] at h; exact ⟨@of_decide_eq_true p d hd, Lh hV r v h⟩
 | .enter f args, v, h => hV.sm f args v h
 | .iN _ _ _, v, h => by cases h
 | .new _ _ _, v, h => by cases h
 | .il _ _, v, h => by cases h
 | .yield _ _, v, h => by cases h
 | .panic _, v, h => by cases h
 | .bad, v, h => by cases h
theorem Mw {B : List Nat} {e0 e : ES} (h : GK B e0 e = true) : bG B (br e0) (br e) := fun b hb => by
 unfold GK at h
 rw [eh] at h
 exact HE (h b hb)
theorem FX {C : bX} {B : List Nat} {ρ : Env} {op : Op} (h : za C B ρ op = true) : ∀ x ∈ op.operands.toList, ∀ b ∈ bV (ρ.ev C x), b ∈ B := fun x hx b hb => by
 unfold za at h
 rw [eh] at h
 have := h x hx
 rw [eh] at this
 have := this b hb
 rw [List.any_eq_true] at this
 obtain ⟨c, hc, he⟩ := this
 rw [<- dG he]; exact hc
theorem ky (hV : nz V) (hf : tO V cf) (hy : ve V cy) {mu : List Nat} {ops : Array Oper} {B : List Nat} {e0 : ES} {k : T AV -> ES -> Bool} {kp : AV -> ES -> Bool} : ∀ (l : List (Bool × Nat)) (ρ : T AV) (e : ES), lI V cf cy mu ops B e0 l ρ e k kp = true ->
 jD V.C mu ops B (br e0) (kE k) (kA kp) l (dK ρ) (br e)
 | [], ρ, e, h => ⟨ρ, e, rfl, rfl, h⟩
 | (true, i) :: r, ρ, e, h => by
   simp only [lI] at h
   split at h
   · cases h
   · rename_i o ho
     split at h
     · rename_i hg
       simp only [bM, hZ, Bool.not_eq_true'] at h
       obtain ⟨⟨h1, h2⟩, h3⟩ := h
       split at h3
       · rename_i v hv
         refine ⟨o, v, ho, .inl ⟨hg, h1, fun Cf => ?_, Lh hV _ _ hv⟩, ?_⟩
         · rcases h2 with h2 | h2
           · rw [Cf] at h2; cases h2
           · exact FX h2
         · have := ky hV hf hy r _ e h3
           rw [mi] at this
           exact this
       · cases h3
     · rename_i hg
       refine ⟨o, .aN [], ho, .inr ⟨hg, rfl⟩, ?_⟩
       have := ky hV hf hy r _ e h
       rw [mi] at this
       exact this
     · cases h
 | (false, i) :: r, ρ, e, h => by
   simp only [lI] at h
   simp only [jD, ix]
   split at h
   · cases h
   · rename_i o ho
     try rw [ho]
     try dsimp only
     split at h
     · rename_i hg
       rw [hg]
       refine ⟨fun _ => ?_, fun h => (by cases h)⟩
       refine aA.wp_mono ?_ _ (xk hf hy _ h)
       rintro v U ⟨e', rfl, hk⟩
       simp only [bM] at hk
       refine ⟨?_, ?_⟩
       · rw [hZ] at hk
         rcases hk.1 with h | h
         · exact .inr (Mw h)
         · exact .inl h
       have := ky hV hf hy r _ e' hk.2
       rw [mi] at this
       exact this
     · rename_i hg
       rw [hg]
       refine ⟨fun h => (by cases h), fun _ => ?_⟩
       have := ky hV hf hy r _ e h
       rw [mi] at this
       exact this
     · cases h
theorem qs {C : bX} {mu : List Nat} {ops : Array Oper} {K K' : Env -> St -> Prop} {Kp tq : AV -> St -> Prop} (hk : ∀ ρ U, K ρ U -> K' ρ U) (hp : ∀ v U, Kp v U -> tq v U) : ∀ (l : List Oper) {ρ : Env} {U : St}, lC C mu ops l ρ U K Kp -> lC C mu ops l ρ U K' tq
 | [], _, _, h => hk _ _ h
 | o :: rest, ρ, U, h => by
   simp only [lC] at h ⊢
   have wpp : ∀ (r : aA) {U : St} {X : AV -> St -> Prop}, r.wp C U X Kp -> r.wp C U X tq := fun r => by
    induction r with
    | val _ => exact fun h => h
    | iN _ _ _ => exact fun h => h
    | new _ _ _ => exact fun h => h
    | il _ _ => exact fun h => h
    | enter f args => exact fun h => h.mono fun r U hr => by cases r <;> first | exact hr | exact hp _ _ hr
    | yield o args => exact fun h => h.mono fun r U hr => by cases r <;> first | exact hr | exact hp _ _ hr
    | panic v => exact fun h => hp _ _ h
    | cond p r ih => exact fun h => ⟨h.1, ih h.2⟩
    | bad => exact fun h => h
   cases hg : eV ops ρ o.guard <;> rw [hg] at h <;> simp only [az] at h ⊢
   exact ⟨fun e => aA.wp_mono (fun v U hv => qs hk hp rest hv) _ (wpp _ (h.1 e)), fun e => qs hk hp rest (h.2 e)⟩
theorem Mi {P : Program} {ty : TypeId} {p v : AV} {U : St} (h : Gn P ty p U = some v) {k : AV -> Prop} (hk : k v) : vD P ty p U k := by
 unfold Gn at h
 unfold vD
 split at h
 · rename_i u hu
   cases h
   first | exact hk | (rw [hu]; exact hk)
 · rename_i q d u hu
   cases hd : @decide q d with
   | false => rw [hd] at h; cases h
   | true =>
     rw [hd] at h; cases h
     first | exact ⟨@of_decide_eq_true q d hd, hk⟩ | (rw [hu]; exact ⟨@of_decide_eq_true q d hd, hk⟩)
 · cases h
theorem vH {P : Program} {ρ : Env} {U : St} : ∀ (rs : List ResultVar) (vs : List AV) (k : List AV -> Prop), xi P ρ U rs = some vs -> k vs -> qT P ρ U rs k
 | [], vs, k, h, hk => by simp only [xi, fL] at h; subst h; exact hk
 | .tmp t :: rs, vs, k, h, hk => by
   simp only [xi, lD] at h
   obtain ⟨us, hu, rfl⟩ := h
   exact vH rs us _ hu hk
 | .cell t ty :: rs, vs, k, h, hk => by
   simp only [xi] at h
   split at h
   · rename_i v hv
     simp only [lD] at h
     obtain ⟨us, hu, rfl⟩ := h
     exact Mi hv (vH rs us _ hu hk)
   · cases h
theorem By (hV : nz V) {ev : pW} (he : rj V ev) : tO V (AY V ev) := fun f args e k h => by
 simp only [AY] at h
 split at h
 · rename_i x hx
   exact hV.sm f args x hx _ _ ⟨e, rfl, h⟩
 · split at h
   · rename_i x e' hx
     exact hV.OS f args e x e' hx _ ⟨e', rfl, h⟩
   · split at h
     · rename_i fn hfn
       split at h
       · rename_i c hc
         simp only [bM] at h
         refine ae.EU hfn hc (Nat.le_of_ble_eq_true h.1) ?_
         have := he _ _ _ _ _ _ _ _ h.2
         rw [Fy] at this
         refine this.mono ?_
         intro ex ρ U hc
         cases ex with
         | normal =>
           obtain ⟨t, e', rfl, rfl, hk⟩ := hc
           simp only [Ly] at hk
           split at hk
           · rename_i vs ux
             exact vH _ vs _ ux ⟨_, _, kr.refl _ _, e', rfl, hk⟩
           · cases hk
         | ret =>
           obtain ⟨t, e', rfl, rfl, hk⟩ := hc
           simp only [Ly] at hk
           split at hk
           · rename_i vs ux
             exact vH _ vs _ ux ⟨_, _, kr.refl _ _, e', rfl, hk⟩
           · cases hk
         | panic x =>
           obtain ⟨e', rfl, hk⟩ := hc
           exact ⟨e', rfl, hk⟩
         | exit id =>
           obtain ⟨t, e', rfl, rfl, hk⟩ := hc
           cases hk
       · cases h
     · cases h
theorem jY (e : ES) (b : Nat) (l : List AV) : (br e).bN b l = br (e.set b (.box l)) := (jH e b _).symm
theorem Bz (hV : nz V) {ev : pW} (he : rj V ev) : tO V (oP V ev) := fun f args e k h => by
 simp only [oP] at h
 cases Ia : V.tr f with
 | false => rw [Ia] at h; exact By hV he f args e k h
 | true =>
   rw [Ia] at h
   simp only [cond_true] at h
   split at h
   · rename_i r g first cap
     rw [bM] at h
     obtain ⟨pn, h⟩ := h
     refine hV.tr f Ia r g first cap _ _ pn fun a b c ha hb hc => ?_
     have ea := o7 ha
     subst ea
     rw [<- nM] at hb hc ⊢
     have eb := o7 hb
     subst eb
     rw [<- nM] at hc ⊢
     have ec := o7 hc
     subst ec
     rw [<- nM]
     refine (By hV he g _ _ _ h).mono ?_
     rintro r U ⟨e', rfl, hk⟩
     cases r with
     | ret v =>
       simp only [Db] at hk
       split at hk
       · rename_i x y z h1 h2 h3
         rw [bM] at hk
         refine ⟨hk.1, ⟨x, h1⟩, ⟨y, h2⟩, ⟨z, h3⟩, ?_⟩
         rw [jY, jY, jY]
         exact ⟨_, rfl, hk.2⟩
       · cases hk
     | panic x =>
       simp only [Db] at hk
       split at hk
       · rename_i t at_ x y z h1 h2 h3
         simp only [bM] at hk
         have ht := dG hk.1
         subst ht
         refine ⟨at_, rfl, ⟨x, h1⟩, ⟨y, h2⟩, ⟨z, h3⟩, fun q hq => ?_⟩
         have eq := o7 hq
         subst eq
         rw [<- nM, jY, jY, jY]
         exact ⟨_, rfl, hk.2⟩
       · cases hk
   · cases h
theorem pP (f : Nat -> AV) : ∀ (n : Nat) (t : T AV) (i : Nat), (nN f n t).get i = if i < n then some (f i) else t.get i
 | 0, t, i => by simp [nN]
 | n + 1, t, i => by
   simp only [nN]
   rw [pP f n, T.o8]
   by_cases h : i < n
   · rw [if_pos h, if_pos (by omega)]
   · rw [if_neg h]
     by_cases e : i = n
     · subst e; simp
     · rw [if_neg e, if_neg (by omega)]
end
end Go.Rip
namespace Go.Rip
open Go.RowKit
theorem aY.env {C : bX} {nt : Nat} {ro : Ro} {c : Code} {Q : Ex -> Env -> St -> Prop} {ρ cT : Env} {U : St} (h1 : ∀ t, t < nt -> cT.get t = ρ.get t) (h2 : ∀ t, nt <= t -> cT.get t = .aN []) (h : aY C nt ro c Q cT U) : aY C nt ro c Q ρ U := by
 intro g w a fr k1 k2 k3 k4 k5
 refine h g w a fr k1 k2 (fun t => ?_) k4 k5
 by_cases ht : t < nt
 · rw [h1 t ht]; exact k3 t
 · rw [h2 t (by omega)]
   have : a.tmps.getD t undef = undef := by
    rw [Array.getD_eq_getD_getElem?, sX (by omega)]; rfl
   rw [this]; exact qv
section
variable {V : fx}
theorem Lg (hV : nz V) {ev : pW} (he : rj V ev) : ve V (sa V ev) := fun o args e k h => by
 simp only [sa] at h
 split at h
 · rename_i L hL
   simp only [bM] at h
   obtain ⟨⟨h1, h2⟩, h3⟩ := h
   refine iY.CM hL (dG h1) (fun t ht => ?_) ?_
   · rw [eh] at h2
     have := h2 t ht
     simpa [Nat.blt_eq] using this
   · have h4 := he _ _ _ _ _ _ _ _ h3
     refine aY.env (cT := dK (nN (sR L.ρ L.params.toList args) L.nt .e)) (fun t ht => ?_) (fun t ht => ?_) ?_
     · simp only [dK]; rw [pP, if_pos ht]; rfl
     · simp only [dK]; rw [pP, if_neg (by omega)]; rfl
     · refine h4.mono ?_
       intro ex ρ U hc
       cases ex with
       | normal =>
         obtain ⟨t, e', rfl, rfl, hk⟩ := hc
         dsimp only at hk
         split at hk
         · rename_i L' El
           simp only [bM] at hk
           refine ⟨L', El, ?_, ?_⟩
           · have := hk.1
             cases hs : L'.state <;> rw [hs] at this <;> first
              | rfl
              | (simp [isReady] at this)
           · have h5 := he _ _ _ _ _ _ _ _ hk.2
             rw [jH] at h5
             refine h5.mono ?_
             intro ex ρ U vX
             cases ex with
             | normal =>
               obtain ⟨t', e2, rfl, rfl, eK⟩ := vX
               simp only [endRound] at eK
               split at eK
               · rename_i L2 HQ; exact ⟨L2, HQ, _, (jH _ _ _).symm, eK⟩
               · cases eK
             | ret =>
               obtain ⟨t', e2, rfl, rfl, eK⟩ := vX
               simp only [endRound] at eK
               split at eK
               · rename_i L2 HQ; exact ⟨L2, HQ, _, (jH _ _ _).symm, eK⟩
               · cases eK
             | exit id =>
               obtain ⟨t', e2, rfl, rfl, eK⟩ := vX
               simp only [endRound] at eK
               split at eK
               · rename_i L2 HQ; exact ⟨L2, HQ, _, (jH _ _ _).symm, eK⟩
               · cases eK
             | panic x =>
               obtain ⟨e2, rfl, eK⟩ := vX
               simp only [endRound] at eK
               split at eK <;> cases eK
         · cases hk
       | exit id => obtain ⟨t, e', rfl, rfl, hk⟩ := hc; cases hk
       | ret => obtain ⟨t, e', rfl, rfl, hk⟩ := hc; cases hk
       | panic x => obtain ⟨e', rfl, hk⟩ := hc; cases hk
 · cases h
theorem LF (hV : nz V) (n : Nat) (Xa : ∀ m, m < n -> rj V (ki V m)) : rj V (ki V n) := by
 cases n with
 | zero => intro nt mu tag ro c ρ e k h; cases h
 | succ n =>
   intro nt mu tag ro c ρ e k h
   have ih := Xa n (Nat.lt_succ_self n)
   have hf := Bz hV ih
   have hy := Lg hV ih
   by_cases hl : ∃ a, c = .loop a
   · obtain ⟨a, rfl⟩ := hl
     refine aY.loop (fun j ρ U => j <= n + 1 /\ ∃ t e, ρ = dK t /\ U = br e /\ ki V j nt mu tag ro (.loop a) t e k = true) (n := n + 1) ⟨cG _, ρ, e, rfl, rfl, h⟩ ?_
     rintro j cT ad ⟨hj, t, e', rfl, rfl, hk⟩
     cases j with
     | zero => cases hk
     | succ j =>
       simp only [ki] at hk
       refine (Xa j (by omega) _ _ _ _ _ _ _ _ hk).mono ?_
       intro ex nq bJ hc
       cases ex with
       | normal =>
         obtain ⟨t2, e2, rfl, rfl, eK⟩ := hc
         exact ⟨j, Nat.lt_succ_self j, by omega, t2, e2, rfl, rfl, eK⟩
       | exit id => exact hc
       | ret => exact hc
       | panic x => exact hc
   simp only [ki] at h
   split at h
   · exact aY.skip ⟨ρ, e, rfl, rfl, h⟩
   · exact aY.exit ⟨ρ, e, rfl, rfl, h⟩
   · exact aY.ret ⟨ρ, e, rfl, rfl, h⟩
   · rename_i a b
     refine aY.seq ((ih _ _ _ _ _ _ _ _ h).mono ?_)
     intro ex cT ad hc
     cases ex with
     | normal =>
       obtain ⟨t, e', rfl, rfl, hk⟩ := hc
       exact ih _ _ _ _ _ _ _ _ hk
     | exit id => exact hc
     | ret => exact hc
     | panic x => exact hc
   · rename_i x a b
     split at h
     · rename_i hc; exact aY.Vf hc (ih _ _ _ _ _ _ _ _ h)
     · rename_i hc; exact aY.Ve hc (ih _ _ _ _ _ _ _ _ h)
     · cases h
   · rename_i id a
     refine aY.block ((ih _ _ _ _ _ _ _ _ h).mono ?_)
     intro ex cT ad hc
     cases ex with
     | normal => exact hc
     | exit wg =>
       obtain ⟨t, e', rfl, rfl, hk⟩ := hc
       simp only [tV]
       dsimp only at hk
       split
       · rename_i hid
         subst hid
         rw [Nat.beq_refl, cond_true] at hk
         exact ⟨t, e', rfl, rfl, hk⟩
       · rename_i hid
         rw [uG hid, cond_false] at hk
         exact ⟨t, e', rfl, rfl, hk⟩
     | ret => exact hc
     | panic x => exact hc
   · rename_i a
     exact (hl ⟨a, rfl⟩).elim
   · rename_i id ops
     simp only [bM] at h
     refine aY.region mu h.1 (qs ?_ ?_ _ (wS hf hy _ _ _ h.2))
     · rintro cT ad ⟨t, e', rfl, rfl, hk⟩
       exact ⟨t, e', rfl, rfl, hk⟩
     · rintro v ad ⟨e', rfl, hk⟩ cT
       exact ⟨e', rfl, hk⟩
   · rename_i id ops
     split at h
     · simp only [bM] at h
       refine aY.sZ mu _ _ hV.mixed h.1.1 (by rw [bM]; exact h.1.2) (gG ?_ ?_ _ (ky hV hf hy _ _ _ h.2))
       · rintro cT ad ⟨t, e', rfl, rfl, hk⟩
         exact ⟨t, e', rfl, rfl, hk⟩
       · rintro v ad ⟨e', rfl, hk⟩ cT
         exact ⟨e', rfl, hk⟩
     · rename_i rows cM I post _
       simp only [bM] at h
       have NP : ∀ v U, kA (fun x e => k (.panic x) .e e) v U -> tt (kC k) v U := by
        rintro v ad ⟨e', rfl, hk⟩ cT
        exact ⟨e', rfl, hk⟩
       refine aY.Ja (B := preB V mu e ops.toList ρ []) (mu := mu) cM I post hV.mixed h.1 (DY h.2.1) (gG ?_ NP _ (ky hV hf hy _ _ _ h.2.2))
       rintro cT ad ⟨t, e', rfl, rfl, hk⟩
       obtain ⟨wg, q1, q2, q3, t2, e2, q4, q5, q6⟩ := Pz t e' hk
       refine ⟨wg, q1, q2, q3, ?_⟩
       have key := gG (K' := KQ (kC k)) (by
        rintro nq bJ ⟨t3, e3, rfl, rfl, hk⟩
        exact ⟨t3, e3, rfl, rfl, hk⟩) NP _ (ky hV hf hy _ _ _ q6)
       rw [<- q4, <- q5] at key
       exact key
   · rename_i f ps assign body
     split at h
     · rename_i gu first cap hfn
       simp only [bM] at h
       refine aY.rangeFunc tag hfn h.1 fun o ho => ?_
       have := o7 ho
       subst this
       rw [<- nM]
       refine (hf _ _ _ _ h.2).mono ?_
       rintro r U ⟨e', rfl, hk⟩
       cases r with
       | ret v =>
         simp only [BD] at hk
         split at hk
         · rename_i L hL
           simp only [bM, Bool.not_eq_true'] at hk
           refine ⟨L, hL, fun hb => ?_, ?_⟩
           · rw [hb] at hk; simp [Im] at hk
           · have eK := hk.2
             rw [<- xm]
             split at eK
             · rename_i hp; try rw [hp]
               exact ⟨_, _, rfl, rfl, eK⟩
             · rename_i hp; try rw [hp]
               exact ⟨_, _, rfl, rfl, eK⟩
             · rename_i id hp; try rw [hp]
               exact ⟨_, _, rfl, rfl, eK⟩
             · cases eK
         · cases hk
       | panic x => exact ⟨e', rfl, hk⟩
     · cases h
   · cases h
theorem RC (hV : nz V) (n : Nat) : rj V (ki V n) := by
 induction n using Nat.strongRecOn with
 | _ n ih => exact LF hV n ih
theorem RD {V : fx} (hV : nz V) (n f : Nat) (args : List AV) (e : ES) (k : KR) (h : oP V (ki V n) f args e k = true) : ae V.C f args (br e) (kR k) := Bz hV (RC hV n) f args e k h
end
end Go.Rip
namespace Go.Rip
open Go.RowKit
mutual
def closed : AV -> Bool
 | .box _ _ | .ms _ _ _ _ _ | .mp _ | .oy _ | .it _ => false
 | .vec _ (.own _) _ => false
 | .vec _ _ l => bS l
 | .bY l => bS l
 | .dY ks vs => bS ks && bS vs
 | .func _ a b => bS a && bS b
 | .iface _ v => closed v
 | .agg l => bS l
 | .aN l => bS l
 | _ => true
def bS : List AV -> Bool
 | [] => true
 | x :: xs => closed x && bS xs
end
mutual
theorem ao.closed {g g' : Gh} (hi : ∀ b o x, g.bI b o = some x -> g'.bI b o = some x) (hm : ∀ b x, g.bo b = some x -> g'.bo b = some x) : ∀ (x : AV) (v : Value), closed x = true -> ao g x v -> ao g' x v
 | .bool _, _, _, hr => hr
 | .int _ _, _, _, hr => hr
 | .str _, _, _, hr => hr
 | .aT, _, _, hr => hr
 | .ag, _, _, hr => hr
 | .jf, _, _, hr => hr
 | .cP, _, _, hr => hr
 | .cA, _, _, hr => hr
 | .box _ _, _, hc, _ => by cases hc
 | .ms _ _ _ _ _, _, hc, _ => by cases hc
 | .mp _, _, hc, _ => by cases hc
 | .oy _, _, hc, _ => by cases hc
 | .it _, _, hc, _ => by cases hc
 | .bY l, _, hc, hr => by
   simp only [ao] at hr ⊢
   obtain ⟨aB, off, vs, hv, h1, h2⟩ := hr
   exact ⟨aB, off, vs, hv, fun i u hu => hi _ _ _ (h1 i u hu), ax.closed hi hm l vs hc h2⟩
 | .vec n cap l, _, hc, hr => by
   simp only [ao] at hr ⊢
   obtain ⟨aB, off, c, vs, hv, h1, h2, h3, h4, h5⟩ := hr
   cases cap with
   | own τ => cases hc
   | full => exact ⟨aB, off, c, vs, hv, h1, h2, h3, fun i u hu => hi _ _ _ (h4 i u hu), ax.closed hi hm l vs hc h5⟩
   | gl => exact ⟨aB, off, c, vs, hv, h1, h2, trivial, fun i u hu => hi _ _ _ (h4 i u hu), ax.closed hi hm l vs hc h5⟩
 | .dY ks vs, _, hc, hr => by
   simp only [ao] at hr ⊢
   simp only [Go.Rip.closed, bM] at hc
   obtain ⟨r, es, c, l, hv, he, hp, hs, h1, h2⟩ := hr
   exact ⟨r, es, c, l, hv, hm _ _ he, hp, hs, ax.closed hi hm ks _ hc.1 h1, ax.closed hi hm vs _ hc.2 h2⟩
 | .func fn first captured, _, hc, hr => by
   simp only [ao] at hr ⊢
   simp only [Go.Rip.closed, bM] at hc
   obtain ⟨fs, cs, hv, h1, h2⟩ := hr
   exact ⟨fs, cs, hv, ax.closed hi hm first _ hc.1 h1, ax.closed hi hm captured _ hc.2 h2⟩
 | .iface t x, _, hc, hr => by
   simp only [ao] at hr ⊢
   obtain ⟨u, hv, h1⟩ := hr
   exact ⟨u, hv, ao.closed hi hm x _ hc h1⟩
 | .agg l, _, hc, hr => by
   simp only [ao] at hr ⊢
   obtain ⟨vs, hv, h0, h1⟩ := hr
   exact ⟨vs, hv, h0, ax.closed hi hm l _ hc h1⟩
 | .aN l, _, hc, hr => by
   simp only [ao] at hr ⊢
   obtain ⟨vs, hv, h1⟩ := hr
   exact ⟨vs, hv, ax.closed hi hm l _ hc h1⟩
 | .any, _, _, _ => by simp only [ao]
theorem ax.closed {g g' : Gh} (hi : ∀ b o x, g.bI b o = some x -> g'.bI b o = some x) (hm : ∀ b x, g.bo b = some x -> g'.bo b = some x) : ∀ (l : List AV) (vs : List Value), bS l = true -> ax g l vs -> ax g' l vs
 | [], _, _, hr => by simpa only [ax] using hr
 | x :: xs, _, hc, hr => by
   simp only [ax] at hr ⊢
   simp only [bS, bM] at hc
   obtain ⟨u, us, hv, h1, h2⟩ := hr
   exact ⟨u, us, hv, ao.closed hi hm x _ hc.1 h1, ax.closed hi hm xs _ hc.2 h2⟩
end
def resolve : Nat -> St -> AV -> AV
 | 0, _, _ => .any
 | n + 1, U, x => match x with
   | .box b off => match U.box b with
     | some l => .bY ((l.map (resolve n U)).drop off)
     | none => .any
   | .ms b off k _ _ => match U.box b with
     | some l => .vec k .gl ((l.map (resolve n U)).drop off)
     | none => .any
   | .mp m => match U.mp m with
     | some (ks, vs) => .dY ks (vs.map (resolve n U))
     | none => .any
   | .vec k .full l => .vec k .full (l.map (resolve n U))
   | .vec k _ l => .vec k .gl (l.map (resolve n U))
   | .bY l => .bY (l.map (resolve n U))
   | .dY ks vs => .dY ks (vs.map (resolve n U))
   | .func f a b => .func f (a.map (resolve n U)) (b.map (resolve n U))
   | .iface t v => .iface t (resolve n U v)
   | .agg l => .agg (l.map (resolve n U))
   | .aN l => .aN (l.map (resolve n U))
   | .oy _ | .it _ => .any
   | x => x
noncomputable def Gh.all (g : Gh) (w : World) : Gh :=
 { g with
  bI := fun q o => if g.base <= q then (match w.cell? ⟨q, o, none⟩ with | some u => if u.oneCell' = true then some u else none | none => none) else g.bI q o
  bo := fun q => if g.base <= q then (match w.heap[q]? with | some (.map es c) => if h : (open Classical in decide (gP es c)) = true then some (es, c) else none | _ => none) else g.bo q }
theorem D9 {g : Gh} {w : World} {q o : Nat} {u : Value} (hq : g.base <= q) (hc : w.cell? ⟨q, o, none⟩ = some u) (h1 : u.oneCell' = true) : (g.all w).bI q o = some u := by
 show (if _ then _ else _) = _
 rw [if_pos hq, hc]; simp [h1]
theorem Bp {g : Gh} {w : World} {q : Nat} {es : Array MapEntry} {c : Nat} (hq : g.base <= q) (hc : w.heap[q]? = some (.map es c)) (h1 : gP es c) : (g.all w).bo q = some (es, c) := by
 show (if _ then _ else _) = _
 rw [if_pos hq, hc]; simp [h1]
theorem aS.x7 {g : Gh} {U : St} {w : World} (h : aS g U w) : Gh.Le g (g.all w) := by
 refine ⟨rfl, rfl, fun _ _ h => h, fun b o x hx => ?_, fun b x hx => ?_, fun _ h => h, fun b o hb => ?_, fun b hb => ?_⟩
 · by_cases hq : g.base <= b
   · exact D9 hq (h.bI _ _ _ hx).1 (h.bI _ _ _ hx).2
   · show (if _ then _ else _) = _
     rw [if_neg hq]; exact hx
 · by_cases hq : g.base <= b
   · exact Bp hq (h.bo _ _ _ hx).1 (h.bo _ _ _ hx).2
   · show (if _ then _ else _) = _
     rw [if_neg hq]; exact hx
 · show (if _ then _ else _) = _
   rw [if_neg (by omega)]
 · show (if _ then _ else _) = _
   rw [if_neg (by omega)]
theorem sd {g : Gh} {U : St} {w : World} (h : aS g U w) (q o : Nat) (u : Value) (hu : (g.all w).bI q o = some u) : w.cell? ⟨q, o, none⟩ = some u /\ u.oneCell' = true := by
 have hu : (if g.base <= q then (match w.cell? ⟨q, o, none⟩ with | some u => if u.oneCell' = true then some u else none | none => none) else g.bI q o) = some u := hu
 split at hu
 · split at hu
   · rename_i x hx
     split at hu
     · cases hu; exact ⟨hx, by assumption⟩
     · cases hu
   · cases hu
 · exact h.bI _ _ _ hu
theorem qD {g : Gh} {U : St} {w : World} (h : aS g U w) (q : Nat) (es : Array MapEntry) (c : Nat) (hu : (g.all w).bo q = some (es, c)) : w.heap[q]? = some (.map es c) /\ gP es c := by
 have hu : (if g.base <= q then (match w.heap[q]? with | some (.map es c) => if h : (open Classical in decide (gP es c)) = true then some (es, c) else none | _ => none) else g.bo q) = some (es, c) := hu
 split at hu
 · split at hu
   · rename_i rp c' hx
     split at hu
     · rename_i hb
       cases hu; exact ⟨hx, by simpa using hb⟩
     · cases hu
   · cases hu
 · exact h.bo _ _ _ hu
theorem xg {g g' : Gh} {f : AV -> AV} : ∀ {l : List AV} {vs : List Value}, (∀ x v, x ∈ l -> ao g x v -> ao g' (f x) v) -> ax g l vs -> ax g' (l.map f) vs
 | [], _, _, h => by simpa only [ax, ke] using h
 | x :: xs, _, hf, h => by
   simp only [ax, dN] at h ⊢
   obtain ⟨u, us, hv, h1, h2⟩ := h
   exact ⟨u, us, hv, hf x u (by simp) h1, xg (fun y v hy => hf y v (by simp [hy])) h2⟩
theorem wz {g : Gh} {U : St} {w : World} (h : aS g U w) : ∀ (n : Nat) (x : AV) (v : Value), ao g x v -> ao (g.all w) (resolve n U x) v := by
 intro n
 induction n with
 | zero => intro x v _; simp only [resolve, ao]
 | succ n ih =>
   intro x v hr
   have hl := h.x7
   have pv : ∀ {l : List AV} {vs : List Value}, ax g l vs -> ax (g.all w) (l.map (resolve n U)) vs := fun h => xg (fun y v _ hy => ih y v hy) h
   have hi : ∀ {aB off : Nat} {vs : List Value}, ig g aB off vs -> ig (g.all w) aB off vs := fun h => h.mono hl
   have box : ∀ {b off : Nat} {l : List AV} {p : Place}, U.box b = some l -> g.place b = some p -> ∃ vs, ig (g.all w) p.aB off vs /\ ax (g.all w) ((l.map (resolve n U)).drop off) vs := fun {b off l p} hb hp => by
    obtain ⟨x', cur, vs, rest, k1, k2, k3, k4, k5, k6, k7, k8⟩ := h.box b l hb
    have k1 : g.place b = some x' := k1
    rw [hp] at k1; cases k1
    refine ⟨vs.drop off, fun i u hu => ?_, (pv k6).drop off⟩
    rw [List.getElem?_drop] at hu
    have aK : off + i < vs.length := by
     rcases fT (off + i) vs.length with h | h
     · exact h
     · simp [mb h] at hu
    have hc : cur[off + i]? = some u := by rw [<- gX, k5, pL aK]; exact hu
    exact D9 k2 (by rw [cell_of_row _ _ _ cur p.e (0, 0) k3]; exact hc) (k7 u (fS (by rw [gX]; exact hc)))
   cases x with
   | box b off =>
     simp only [resolve]
     cases hb : U.box b with
     | none => simp only [ao]
     | some l =>
       simp only [ao] at hr ⊢
       obtain ⟨p, hp, rfl⟩ := hr
       obtain ⟨vs, h1, h2⟩ := box (off := off) hb hp
       exact ⟨p.aB, off, vs, rfl, h1, h2⟩
   | ms b off k fW e =>
     simp only [resolve]
     cases hb : U.box b with
     | none => simp only [ao]
     | some l =>
       simp only [ao] at hr ⊢
       obtain ⟨p, c, hp, rfl, q1, q2, _⟩ := hr
       obtain ⟨vs, h1, h2⟩ := box (off := off) hb hp
       exact ⟨p.aB, off, c, vs, rfl, q1, q2, trivial, h1, h2⟩
   | mp m =>
     simp only [resolve]
     cases hm : U.mp m with
     | none => simp only [ao]
     | some kv =>
       obtain ⟨ks, vs⟩ := kv
       simp only [ao] at hr ⊢
       obtain ⟨r, hr, rfl⟩ := hr
       obtain ⟨r', es, clock, q1, q2, q3, qb, ⟨l, q4, q5, q6, q7⟩, q8⟩ := h.mp m _ hm
       rw [hr] at q1; cases q1
       exact ⟨r, es, clock, l, rfl, Bp q2 q3 qb, q4, q5, q6.mono hl, pv q7⟩
   | vec k c l =>
     simp only [ao] at hr
     obtain ⟨aB, off, c', vs, rfl, h1, h2, h3, h4, h5⟩ := hr
     cases c with
     | full => simp only [resolve, ao]; exact ⟨aB, off, c', vs, rfl, h1, h2, h3, hi h4, pv h5⟩
     | own τ => simp only [resolve, ao]; exact ⟨aB, off, c', vs, rfl, h1, h2, trivial, hi h4, pv h5⟩
     | gl => simp only [resolve, ao]; exact ⟨aB, off, c', vs, rfl, h1, h2, trivial, hi h4, pv h5⟩
   | bY l =>
     simp only [resolve, ao] at hr ⊢
     obtain ⟨aB, off, vs, rfl, h1, h2⟩ := hr
     exact ⟨aB, off, vs, rfl, hi h1, pv h2⟩
   | dY ks vs =>
     simp only [resolve, ao] at hr ⊢
     obtain ⟨r, es, c, l, rfl, he, hp, hs, h1, h2⟩ := hr
     exact ⟨r, es, c, l, rfl, hl.bo _ _ he, hp, hs, h1.mono hl, pv h2⟩
   | func f a b =>
     simp only [resolve, ao] at hr ⊢
     obtain ⟨fs, cs, rfl, h1, h2⟩ := hr
     exact ⟨fs, cs, rfl, pv h1, pv h2⟩
   | iface t x =>
     simp only [resolve, ao] at hr ⊢
     obtain ⟨u, rfl, h1⟩ := hr
     exact ⟨u, rfl, ih _ _ h1⟩
   | agg l =>
     simp only [resolve, ao] at hr ⊢
     obtain ⟨vs, rfl, h0, h1⟩ := hr
     exact ⟨vs, rfl, h0, pv h1⟩
   | aN l =>
     simp only [resolve, ao] at hr ⊢
     obtain ⟨vs, rfl, h1⟩ := hr
     exact ⟨vs, rfl, pv h1⟩
   | oy o => simp only [resolve, ao]
   | it o => simp only [resolve, ao]
   | any => simp only [resolve, ao]
   | bool b => simp only [resolve]; exact hr.mono hl
   | int k n => simp only [resolve]; exact hr.mono hl
   | str s => simp only [resolve]; exact hr.mono hl
   | aT => simp only [resolve]; exact hr.mono hl
   | ag => simp only [resolve]; exact hr.mono hl
   | jf => simp only [resolve]; exact hr.mono hl
   | cP => simp only [resolve]; exact hr.mono hl
   | cA => simp only [resolve]; exact hr.mono hl
theorem Pure.vE {C : bX} {f : Nat} {args : List AV} {x : AV} (xQ : ∀ i, closed (C.ui i) = true) (hargs : bS args = true) (hx : closed x = true) (d : Nat)
 (h : ae C f args (br ⟨.e, 0⟩) (fun r U => ∃ v, r = .ret v /\ resolve d U v = x)) : Pure C f args x := by
 intro U R hR g w vs hs hG ha
 let g0 : Gh := { base := w.heap.size, w0 := w, place := fun _ => none, bI := g.bI, bo := g.bo, res := fun _ => false }
 have uw : aS g0 (br ⟨.e, 0⟩) w := {
  below := Below.refl _ _
  le := cG _
  bI := hs.bI
  bo := hs.bo
  live := fun b x hb => by cases hb
  apart := fun b b' x x' p p' hb => by cases hb
  res := fun r hr => by cases hr
  fin := ⟨0, fun n hn => by cases hn; rfl, fun _ _ => rfl⟩ }
 have HP : ff C g0 := ⟨fun i => ao.closed (g := g) (g' := g0) (fun _ _ _ h => h) (fun _ _ h => h) _ _ (xQ i) (hG.1 i), fun i cs hi => by
  obtain ⟨k1, t, fr, k2⟩ := hG.2 i cs hi
  refine ⟨Nat.lt_of_lt_of_le k1 hs.le, t, fr, ?_⟩
  show w.heap[i]? = _
  rw [hs.below.block i k1]; exact k2⟩
 have HS : ax g0 args vs := ax.closed (g := g) (g' := g0) (fun _ _ _ h => h) (fun _ _ h => h) _ _ hargs ha
 refine (h g0 w vs uw HP HS).mono ?_
 rintro e w' hp
 cases e with
 | panicked ch => obtain ⟨g', ad, y, v, _, _, _, _, z, hz, _⟩ := hp; cases hz
 | outgrown => exact hp.elim
 | returned v =>
   obtain ⟨g', ad, y, h1, h2, h3, z, hz, hres⟩ := hp
   cases hz
   have bK := wz h2 d y v h3
   rw [hres] at bK
   have pt := h2.x7
   have hle := h1.trans pt
   have aad : g'.base = w.heap.size := h1.base
   have sv : Below w.heap.size w w' := by
    have := h2.below
    rw [h1.base, h1.w0] at this
    exact this
   let gF : Gh := { base := g.base, w0 := g.w0, place := g.place, bI := (g'.all w').bI, bo := (g'.all w').bo, res := g.res }
   have B3 : Gh.Le g gF := ⟨rfl, rfl, fun _ _ h => h, fun b o u hu => hle.bI b o u hu, fun b u hu => hle.bo b u hu, fun _ h => h,
    fun b o hb => hle.uz b o (by show b < w.heap.size; have := hs.le; omega), fun b hb => hle.rF b (by show b < w.heap.size; have := hs.le; omega)⟩
   refine ⟨gF, U, x, B3, ?_, ao.closed (g := g'.all w') (g' := gF) (fun _ _ _ h => h) (fun _ _ h => h) x v hx bK, hR⟩
   exact {
    below := hs.below.trans (sv.mono hs.le)
    le := Nat.le_trans hs.le sv.size
    bI := fun q o u hu => sd h2 q o u hu
    bo := fun q es c hu => qD h2 q es c hu
    live := fun b l hb => by
     obtain ⟨p, k1, k2, k3⟩ := hs.live b l hb
     have aK := k3.lt
     exact ⟨p, k1, k2, k3.frame B3.r (sv.block _ aK) (fun o => hle.uz _ o aK) (hle.rF _ aK)⟩
    apart := hs.apart
    res := fun r hr => by
     obtain ⟨k1, k2⟩ := hs.res r hr
     exact ⟨k1, by rw [sv.block _ (gV.1 k2).1]; exact k2⟩
    fin := hs.fin }
def VL (d : Nat) (x : AV) : KR
 | .ret v, e => fR (resolve d (br e) v) x
 | .panic _, _ => false
theorem Pure.dM {V : fx} (hV : nz V) (n d : Nat) {f : Nat} {args : List AV} {x : AV} (xQ : ∀ i, closed (V.C.ui i) = true) (h : (bS args && closed x && oP V (ki V n) f args ⟨.e, 0⟩ (VL d x)) = true) : Pure V.C f args x := by
 simp only [bM] at h
 refine Pure.vE xQ h.1.1 h.1.2 d ((RD hV n f args ⟨.e, 0⟩ _ h.2).mono ?_)
 rintro r U ⟨e, rfl, hk⟩
 cases r with
 | ret v => exact ⟨v, rfl, rn hk⟩
 | panic v => cases hk
end Go.Rip
namespace Go.Rip
open Go.RowKit
def NF (R : St -> Prop) : Ex -> Env -> St -> Prop
 | .normal, _, U => R U
 | .ret, _, U => R U
 | _, _, _ => False
theorem P7 {C : bX} {f : FuncId} {fn : Func} {id : Nat} {o : Oper} {d : Nat} {rest : Code} {args : List AV} {U : St} {g : Gh} {w : World} {vs : List Value}
 (hf : C.P.funcs[f]? = some fn) (hb : fn.body = some (.seq (.region id #[o] false) rest)) (hres : fn.results = #[]) (hop : ∀ ev w, (execOp ev o).run C.P w = .ok .recover w) (hd : o.dst = some d) (hdn : d < fn.ntmps) (hg : o.guard = none)
 (hlen : args.length <= fn.ntmps) (hs : aS g U w) (hG : ff C g) (ha : ax g args vs) {x : AV} {v : Value} {u u' : FrameMode} (hx : ao g x v)
 (hu : (u = .returning /\ v = .nilIface /\ u' = .returning) \/ (u = .panicking [{ v, recovered := false }] /\ u' = .panicking [{ v, recovered := true }])) (R : St -> Prop)
 (h : aY C fn.ntmps .bare rest (NF R) ((Env.gg args).put d x) U) :
 CallsDIn Fence.wide 0 C.P f vs.toArray u w (fun e u2 w' => ∃ v', e = .returned v' /\ u2 = u' /\ ∃ g' ad, Gh.Le g g' /\ aS g' ad w' /\ R ad) := by
 refine callsDIn_of_wpSIn hf hb trivial fun BB cs hm => ?_
 refine wpSIn_seq (wpSIn_region ?_)
 have hl := ha.length
 have da : (vs.toArray ++ Array.replicate (fn.ntmps - vs.toArray.size) undef).size = fn.ntmps := by simp; omega
 have zb : eE g (Env.gg args) (vs.toArray ++ Array.replicate (fn.ntmps - vs.toArray.size) undef) := wN args vs _ ha
 have Yh := zb.put (d := d) (by rw [da]; exact hdn) hx
 have after : ∀ xB, (xB = { BB with mode := u' } :: cs) -> rest.wpSIn Fence.wide 0 C.P (bodyPostS C.P fn BB cs fun e u2 w' => ∃ v', e = .returned v' /\ u2 = u' /\ ∃ g' ad, Gh.Le g g' /\ aS g' ad w' /\ R ad)
  (Act.put { tmps := vs.toArray ++ Array.replicate (fn.ntmps - vs.toArray.size) undef, defers := [] } o.dst v) xB w := fun xB pk => by
  refine wpSIn_of_wpIn rfl ?_
  have := h g w (Act.put { tmps := vs.toArray ++ Array.replicate (fn.ntmps - vs.toArray.size) undef, defers := [] } o.dst v) none hs hG (by rw [hd]; exact Yh) (by rw [(kK _ _ _).2]; exact da) trivial
  refine wpIn_mono this ?_
  rintro e a w' ⟨q1, g', ad, cT, ms, q2, q3, q4, q5, q6, q7⟩
  have uu : ms = [] := q3.none rfl
  subst uu
  rw [(kK _ _ _).1] at q2
  simp only [ke, gH] at q2
  have hr : ∀ tmps, (results fn tmps).run C.P w' = .ok (.tuple #[]) w' := fun tmps => by
   unfold results
   rw [hres]
   simp
  cases e with
  | normal => exact ⟨q2, u', pk, _, hr _, _, rfl, rfl, g', ad, q4, q5, q7⟩
  | ret => exact ⟨q2, u', pk, _, hr _, _, rfl, rfl, g', ad, q4, q5, q7⟩
  | exit id => exact q7.elim
  | panic ch => obtain ⟨_, _, _, _, hf⟩ := q7; exact hf.elim
  | goto l => exact q7.elim
  | outgrown => exact q7.elim
 have hw : Region.wanted o (yielded #[o] (vs.toArray ++ Array.replicate (fn.ntmps - vs.toArray.size) undef)) = true := by simp [Region.wanted, hg]
 show wpOpsSIn Fence.wide 0 C.P #[o] _ [0] _ _ _
 simp only [wpOpsSIn, List.getElem?_toArray, List.getElem?_cons_zero, hw, if_true, hop]
 refine ⟨fun _ _ => trivial, ?_⟩
 rcases hu with ⟨rfl, rfl, rfl⟩ | ⟨rfl, rfl⟩
 · have e1 : recoverD (BB :: cs) = none := by simp [recoverD, hm]
   rw [e1]
   exact after _ (by rw [<- hm])
 · have e1 : recoverD (BB :: cs) = some (v, { BB with mode := .panicking [{ v, recovered := true }] } :: cs) := by simp [recoverD, hm]
   rw [e1]
   exact after _ rfl
end Go.Rip
