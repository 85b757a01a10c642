/- Lemmas for the proof: no conditions. -/
import Derived.Test.YtnfpmiiopiinbaaGreatDoorRipZz
import Derived.Test.YtnfpmiiopiinbaaGreatDoorRipA
import Derived.OrdersIn
import Derived.RecoverIn
set_option linter.unusedVariables false
set_option linter.unusedSimpArgs false
set_option linter.loopingSimpArgs false
namespace Go.Rip
open Go.RowKit
inductive cm where
 | ret (x : AV)
 | panic (x : AV)
inductive Ex where
 | normal
 | exit (id : Nat)
 | ret
 | panic (x : AV)
def FW (ro : Option Nat) : Fence := { Fence.wide with round := ro }
def kx (g : Gh) (R : cm -> St -> Prop) : Ending -> World -> Prop
 | .returned v, w' => ∃ g' ad x, Gh.Le g g' /\ aQ g' ad w' /\ ak g' x v /\ R (.ret x) ad
 | .panicked ch, w' => ∃ g' ad x v, ch = [{ v, recovered := false }] /\ Gh.Le g g' /\ aQ g' ad w' /\ ak g' x v /\ R (.panic x) ad
 | .outgrown, _ => False
def ae (C : bQ) (f : FuncId) (args : List AV) (U : St) (R : cm -> St -> Prop) : Prop :=
 ∀ g w vs, aQ g U w -> eL C g -> ar g args vs -> CallsIn Fence.wide 0 C.P f (List.toArray vs) w (kx g R)
def iy (C : bQ) (o : Nat) (args : List AV) (U : St) (R : cm -> St -> Prop) : Prop :=
 ∀ g w vs x, aQ g U w -> eL C g -> ar g args vs -> g.place o = some x -> ∃ fn tmps assign body, (Instr.yield x.ax (List.toArray vs)).run C.P w = .ok (.round x.ax fn tmps assign body) w /\
  RoundIn Fence.wide 0 C.P x.ax fn tmps assign body w (kx g R)
theorem kx.mono {g : Gh} {R R' : cm -> St -> Prop} {e : Ending} {w : World} (h : kx g R e w) (hr : ∀ r U, R r U -> R' r U) : kx g R' e w := by
 cases e with
 | returned v => obtain ⟨g', ad, x, h1, h2, h3, h4⟩ := h; exact ⟨g', ad, x, h1, h2, h3, hr _ _ h4⟩
 | panicked ch => obtain ⟨g', ad, x, v, h0, h1, h2, h3, h4⟩ := h; exact ⟨g', ad, x, v, h0, h1, h2, h3, hr _ _ h4⟩
 | outgrown => exact h
theorem ae.mono {C : bQ} {f : FuncId} {args : List AV} {U : St} {R R' : cm -> St -> Prop} (h : ae C f args U R) (hr : ∀ r U, R r U -> R' r U) : ae C f args U R' :=
 fun g w vs hs hG ha => (h g w vs hs hG ha).mono fun _ _ hp => hp.mono hr
theorem iy.mono {C : bQ} {f : Nat} {args : List AV} {U : St} {R R' : cm -> St -> Prop} (h : iy C f args U R) (hr : ∀ r U, R r U -> R' r U) : iy C f args U R' :=
 fun g w vs x hs hG ha hx => let ⟨a, b, c, d, e, r⟩ := h g w vs x hs hG ha hx; ⟨a, b, c, d, e, r.mono fun _ _ hp => hp.mono hr⟩
def al (K : AV -> St -> Prop) (Kp : AV -> St -> Prop) : cm -> St -> Prop
 | .ret x, U => K x U
 | .panic x, U => Kp x U
def aA.wp (C : bQ) (U : St) (K : AV -> St -> Prop) (Kp : AV -> St -> Prop) : aA -> Prop
 | .val v => K v U
 | .ir v b x => K v (U.set b x)
 | .new k del x => ∀ b, (U.nE del).cj b -> K (k.at b) ((U.nE del).new b x)
 | .gT b l => ∀ p ∈ l, K p.1 (U.set b p.2)
 | .enter f args => ae C f args U (al K Kp)
 | .yield l args => iy C l args U (al K Kp)
 | .panic v => Kp v U
 | @aA.cond p _ r => p /\ r.wp C U K Kp
 | .bad => False
def eQ (ops : Array Oper) (ρ : Env) : Option (Nat × Bool) -> AV
 | none => .bool true
 | some (j, want) => match (ops[j]?).bind (·.dst) with
   | some d => match ρ.get d with
     | .bool b => .bool (b == want)
     | .aL [] => .bool false
     | _ => .any
   | none => .any
def ay : AV -> Prop -> Prop -> Prop
 | .bool b, A, B => (b = true -> A) /\ (b = false -> B)
 | _, _, _ => False
def kL (C : bQ) (mu : List Nat) (ops : Array Oper) : List Oper -> Env -> St -> (Env -> St -> Prop) -> (AV -> St -> Prop) -> Prop
 | [], ρ, U, K, _ => K ρ U
 | o :: rest, ρ, U, K, Kp => ay (eQ ops ρ o.guard)
    ((fR C (match o.dst with | some d => mu.contains d | none => false) o.op ρ U).wp C U (fun v ad => kL C mu ops rest (ρ.dc o.dst v) ad K Kp) Kp)
    (kL C mu ops rest (ρ.dc o.dst (.aL [])) U K Kp)
def zS (r : Nat) : Deferred := { target := .collected r, args := #[] }
def AA (g : Gh) (Q : Ex -> Env -> St -> Prop) (ρ : Env) (U : St) : Exit -> Prop
 | .normal => Q .normal ρ U
 | .exit id => Q (.exit id) ρ U
 | .ret => Q .ret ρ U
 | .panic ch => ∃ x v, ch = [{ v, recovered := false }] /\ ak g x v /\ Q (.panic x) ρ U
 | .goto _ => False
 | .outgrown => False
inductive Ro where
 | fn
 | bare
 | round (o : Nat)
def Ro.nm : Ro -> Bool
 | .bare => true
 | _ => false
structure ki (nm : Bool) (g g' : Gh) (ms : List Nat) : Prop where
 none : nm = true -> ms = []
 nodup : ms.Nodup
 res : ∀ r ∈ ms, g'.res r = true /\ g.res r = false
theorem ib (nm : Bool) (g g' : Gh) : ki nm g g' [] := ⟨fun _ => rfl, List.nodup_nil, by simp⟩
theorem ki.append {nm : Bool} {g g1 g2 : Gh} {m1 m2 : List Nat} (h1 : ki nm g g1 m1) (h2 : ki nm g1 g2 m2) (l1 : Gh.Le g g1) (l2 : Gh.Le g1 g2) : ki nm g g2 (m2 ++ m1) := by
 refine ⟨fun h => by rw [h1.none h, h2.none h]; rfl, List.nodup_append.2 ⟨h2.nodup, h1.nodup, fun x hx y hy e => ?_⟩, fun r hr => ?_⟩
 · subst e
   have := (h2.res x hx).2
   rw [(h1.res x hy).1] at this; cases this
 · simp only [fx] at hr
   rcases hr with hr | hr
   · refine ⟨(h2.res r hr).1, ?_⟩
     cases e : g.res r with
     | false => rfl
     | true => have := (h2.res r hr).2; rw [l1.res _ e] at this; cases this
   · exact ⟨l2.res _ (h1.res r hr).1, (h1.res r hr).2⟩
def mz (g : Gh) (nt : Nat) (nm : Bool) (ds : List Deferred) (Q : Ex -> Env -> St -> Prop) (e : Exit) (a : Act) (w : World) : Prop :=
 a.tmps.size = nt /\ ∃ g' U ρ ms, a.defers = ms.map zS ++ ds /\ ki nm g g' ms /\ Gh.Le g g' /\ aQ g' U w /\ eo g' ρ a.tmps /\ AA g' Q ρ U e
def Ae (g : Gh) : Ro -> Option Nat -> Prop
 | .fn, none => True
 | .bare, none => True
 | .round o, some l => ∃ x, g.place o = some x /\ x.ax = l
 | _, _ => False
theorem Ae.mono {g g' : Gh} (h : Gh.Le g g') {ro : Ro} {fr : Option Nat} (hr : Ae g ro fr) : Ae g' ro fr := by
 cases ro <;> cases fr <;> simp only [Ae] at hr ⊢
 obtain ⟨x, h1, h2⟩ := hr
 exact ⟨x, h.place _ _ h1, h2⟩
def aY (C : bQ) (nt : Nat) (ro : Ro) (c : Code) (Q : Ex -> Env -> St -> Prop) (ρ : Env) (U : St) : Prop :=
 ∀ g w a fr, aQ g U w -> eL C g -> eo g ρ a.tmps -> a.tmps.size = nt -> Ae g ro fr -> c.wpIn (FW fr) 0 C.P (mz g nt ro.nm a.defers Q) a w
section
variable {C : bQ} {g : Gh} {U : St} {w : World} {nt : Nat} {nm : Bool} {ro : Ro} {Q : Ex -> Env -> St -> Prop} {ρ : Env}
theorem AA.mono {Q' : Ex -> Env -> St -> Prop} {e : Exit} (h : AA g Q ρ U e) (hq : ∀ e ρ U, Q e ρ U -> Q' e ρ U) : AA g Q' ρ U e := by
 cases e <;> first
  | exact hq _ _ _ h
  | (obtain ⟨x, v, h1, h2, h3⟩ := h; exact ⟨x, v, h1, h2, hq _ _ _ h3⟩)
  | exact h
theorem aY.mono {c : Code} {Q' : Ex -> Env -> St -> Prop} (h : aY C nt ro c Q ρ U) (hq : ∀ e ρ U, Q e ρ U -> Q' e ρ U) : aY C nt ro c Q' ρ U :=
 fun g w a fr h1 h2 h3 h4 pn => wpIn_mono (h g w a fr h1 h2 h3 h4 pn) fun e a' w' ⟨k1, g', ad, cO, ms, k2, k3, k4, k5, k6, k7⟩ => ⟨k1, g', ad, cO, ms, k2, k3, k4, k5, k6, k7.mono hq⟩
theorem mz.back {g' : Gh} {ds : List Deferred} {ms : List Nat} {e : Exit} {a : Act} (h : mz g' nt nm (ms.map zS ++ ds) Q e a w) (pq : ki nm g g' ms) (hle : Gh.Le g g') : mz g nt nm ds Q e a w := by
 obtain ⟨k1, g2, ad, cO, By, k2, k3, k4, k5, k6, k7⟩ := h
 exact ⟨k1, g2, ad, cO, By ++ ms, by rw [k2, List.map_append, oY], pq.append k3 hle k4, hle.trans k4, k5, k6, k7⟩
def Ry (K : Env -> St -> Prop) (Q : Ex -> Env -> St -> Prop) : Ex -> Env -> St -> Prop
 | .normal, ρ, U => K ρ U
 | e, ρ, U => Q e ρ U
theorem aY.seq {x y : Code} (h : aY C nt ro x (Ry (fun ρ U => aY C nt ro y Q ρ U) Q) ρ U) : aY C nt ro (.seq x y) Q ρ U := by
 intro g w a fr h1 h2 h3 h4 pn
 refine wpIn_seq (wpIn_mono (h g w a fr h1 h2 h3 h4 pn) ?_)
 rintro e a' w' ⟨k1, g', ad, cO, ms, k2, k3, k4, k5, k6, k7⟩
 cases e with
 | normal =>
   have := k7 g' w' a' fr k5 (h2.mono k4) k6 k1 (pn.mono k4)
   rw [k2] at this
   exact wpIn_mono this fun e a w hp => hp.back k3 k4
 | exit id => exact ⟨k1, g', ad, cO, ms, k2, k3, k4, k5, k6, k7⟩
 | ret => exact ⟨k1, g', ad, cO, ms, k2, k3, k4, k5, k6, k7⟩
 | panic ch => exact ⟨k1, g', ad, cO, ms, k2, k3, k4, k5, k6, k7⟩
 | goto l => exact k7.elim
 | outgrown => exact k7.elim
theorem tH {a : Act} {ds : List Deferred} {e : Exit} (h : aQ g U w) (hr : eo g ρ a.tmps) (hn : a.tmps.size = nt) (hd : a.defers = ds) (hq : AA g Q ρ U e) : mz g nt nm ds Q e a w :=
 ⟨hn, g, U, ρ, [], by simpa using hd, ib _ _ _, Gh.Le.refl g, h, hr, hq⟩
theorem aY.skip (h : Q .normal ρ U) : aY C nt ro .skip Q ρ U := fun g w a fr h1 h2 h3 h4 _ => wpIn_skip (tH h1 h3 h4 rfl h)
theorem aY.exit {id : Nat} (h : Q (.exit id) ρ U) : aY C nt ro (.exit id) Q ρ U := fun g w a fr h1 h2 h3 h4 _ => wpIn_exit (tH h1 h3 h4 rfl h)
theorem aY.ret (h : Q .ret ρ U) : aY C nt ro .ret Q ρ U := fun g w a fr h1 h2 h3 h4 _ => wpIn_ret (tH h1 h3 h4 rfl h)
theorem aY.cond {c : Operand} {x y : Code} {b : Bool} (hc : ρ.ev C c = .bool b) (h1 : b = true -> aY C nt ro x Q ρ U) (h2 : b = false -> aY C nt ro y Q ρ U) : aY C nt ro (.cond c x y) Q ρ U := by
 intro g w a fr k1 k2 k3 k4 k5
 have := oB k2 k3 c
 rw [hc] at this
 simp only [ak] at this
 exact wpIn_cond_split this (fun e => h1 e g w a fr k1 k2 k3 k4 k5) (fun e => h2 e g w a fr k1 k2 k3 k4 k5)
theorem aY.Tl {c : Operand} {x y : Code} (hc : ρ.ev C c = .bool true) (h1 : aY C nt ro x Q ρ U) : aY C nt ro (.cond c x y) Q ρ U := aY.cond hc (fun _ => h1) (fun h => by cases h)
theorem aY.Tj {c : Operand} {x y : Code} (hc : ρ.ev C c = .bool false) (h1 : aY C nt ro y Q ρ U) : aY C nt ro (.cond c x y) Q ρ U := aY.cond hc (fun h => by cases h) (fun _ => h1)
def sT (id : Nat) (Q : Ex -> Env -> St -> Prop) : Ex -> Env -> St -> Prop
 | .exit uU, ρ, U => if uU = id then Q .normal ρ U else Q (.exit uU) ρ U
 | e, ρ, U => Q e ρ U
theorem aY.block {id : Nat} {c : Code} (h : aY C nt ro c (sT id Q) ρ U) : aY C nt ro (.block id c) Q ρ U := by
 intro g w a fr h1 h2 h3 h4 pn
 refine wpIn_block (wpIn_mono (h g w a fr h1 h2 h3 h4 pn) ?_)
 rintro e a' w' ⟨k1, g', ad, cO, ms, k2, k3, k4, k5, k6, k7⟩
 cases e with
 | normal => exact ⟨k1, g', ad, cO, ms, k2, k3, k4, k5, k6, k7⟩
 | exit uU =>
   have k7 : sT id Q (.exit uU) cO ad := k7
   simp only [sT] at k7
   simp only [Exit.inBlock]
   split
   · rename_i e; rw [if_pos e] at k7; exact ⟨k1, g', ad, cO, ms, k2, k3, k4, k5, k6, k7⟩
   · rename_i e; rw [if_neg e] at k7; exact ⟨k1, g', ad, cO, ms, k2, k3, k4, k5, k6, k7⟩
 | ret => exact ⟨k1, g', ad, cO, ms, k2, k3, k4, k5, k6, k7⟩
 | panic ch => exact ⟨k1, g', ad, cO, ms, k2, k3, k4, k5, k6, k7⟩
 | goto l => exact k7.elim
 | outgrown => exact k7.elim
theorem aY.loop {c : Code} (I : Nat -> Env -> St -> Prop) {n : Nat} (h0 : I n ρ U) (round : ∀ n ρ U, I n ρ U -> aY C nt ro c (Ry (fun cO ad => ∃ m, m < n /\ I m cO ad) Q) ρ U) : aY C nt ro (.loop c) Q ρ U := by
 intro g w a fr h1 h2 h3 h4 pn
 let J : Nat -> Act -> World -> Prop := fun n a' w' => a'.tmps.size = nt /\ ∃ g' ad cO ms, a'.defers = ms.map zS ++ a.defers /\ ki ro.nm g g' ms /\ Gh.Le g g' /\ aQ g' ad w' /\ eo g' cO a'.tmps /\ I n cO ad
 have ex : ∀ a' w', (∃ n, J n a' w') -> ∃ n, J n a' w' /\ ∀ m, m < n -> ¬ J m a' w' := fun a' w' ⟨n, hn⟩ => by
  induction n using Nat.strongRecOn with
  | _ n ih =>
    by_cases hm : ∃ m, m < n /\ J m a' w'
    · obtain ⟨m, Ds, Ms⟩ := hm; exact ih m Ds Ms
    · exact ⟨n, hn, fun m Ds Ms => hm ⟨m, Ds, Ms⟩⟩
 classical
 let μ : Act -> World -> Nat := fun a' w' => if h : ∃ n, J n a' w' then (ex a' w' h).choose else 0
 have Vg : ∀ a' w', (∃ n, J n a' w') -> J (μ a' w') a' w' /\ ∀ m, m < μ a' w' -> ¬ J m a' w' := fun a' w' h => by
  have := (ex a' w' h).choose_spec
  simp only [μ, dif_pos h]; exact this
 refine wpIn_loop (fun a' w' => ∃ n, J n a' w') μ ⟨n, h4, g, U, ρ, [], by simp, ib _ _ _, Gh.Le.refl g, h1, h3, h0⟩ ?_
 intro a' w' hJ
 obtain ⟨⟨k1, g', ad, cO, ms, k2, k3, k4, k5, k6, k7⟩, _⟩ := Vg a' w' hJ
 refine wpIn_mono (round _ cO ad k7 g' w' a' fr k5 (h2.mono k4) k6 k1 (pn.mono k4)) ?_
 intro e a2 w2 hp
 rw [k2] at hp
 have hp := hp.back k3 k4
 obtain ⟨q1, g2, bN, nC, By, q2, q3, q4, q5, q6, q7⟩ := hp
 cases e with
 | normal =>
   obtain ⟨m, hm, hI⟩ := q7
   have P8 : J m a2 w2 := ⟨q1, g2, bN, nC, By, q2, q3, q4, q5, q6, hI⟩
   refine ⟨⟨m, P8⟩, ?_⟩
   have := (Vg a2 w2 ⟨m, P8⟩).2
   rcases ga (μ a2 w2) (μ a' w') with h | h
   · exact h
   · exact absurd P8 (this m (by omega))
 | exit id => exact ⟨q1, g2, bN, nC, By, q2, q3, q4, q5, q6, q7⟩
 | ret => exact ⟨q1, g2, bN, nC, By, q2, q3, q4, q5, q6, q7⟩
 | panic ch => exact ⟨q1, g2, bN, nC, By, q2, q3, q4, q5, q6, q7⟩
 | goto l => exact q7.elim
 | outgrown => exact q7.elim
end
end Go.Rip
namespace Go.Rip
open Go.RowKit
section
variable {C : bQ} {g : Gh} {U : St} {w : World} {nt : Nat} {nm : Bool} {ro : Ro} {fr : Option Nat} {Q : Ex -> Env -> St -> Prop} {ρ : Env}
def vJ (nt : Nat) (o : Oper) : Bool :=
 (match o.dst with | some d => decide (d < nt) | none => true) && (match o.op with | .defer _ => false | _ => true)
def jk (nt : Nat) (ops : Array Oper) : Bool := ops.toList.all (vJ nt)
theorem uO {ops : Array Oper} {a : Act} (hr : eo g ρ a.tmps) {o : Oper} {b : Bool} (h : eQ ops ρ o.guard = .bool b) : Region.wanted o (yielded ops a.tmps) = b := by
 unfold eQ at h
 unfold Region.wanted
 cases hg : o.guard with
 | none => simp [hg] at h; simp [h]
 | some jw =>
   obtain ⟨j, want⟩ := jw
   simp only [hg] at h ⊢
   split at h
   · rename_i d hd
     split at h
     · rename_i b' hb
       simp only [AV.bool.injEq] at h
       subst h
       have := hr d
       rw [hb] at this
       simp only [ak] at this
       have nF : a.tmps[d]? = some (.bool b') := by
        rw [Array.getD_eq_getD_getElem?] at this
        cases ht : a.tmps[d]? with
        | none => rw [ht] at this; simp [undef] at this
        | some v => rw [ht] at this; simp at this; rw [this]
       unfold yielded
       rw [hd]
       simp only [Option.bind_some, nF]
       cases b' <;> cases want <;> rfl
     · rename_i hb
       simp only [AV.bool.injEq] at h
       subst h
       have := hr d
       rw [hb] at this
       simp only [ak, ar] at this
       obtain ⟨vs, this, rfl⟩ := this
       have nF : ∀ b, a.tmps[d]? ≠ some (.bool b) := fun b dz => by
        rw [Array.getD_eq_getD_getElem?, dz] at this
        simp at this
       unfold yielded
       rw [hd]
       simp only [Option.bind_some]
       first
        | rfl
        | (split
           · rename_i b' dz; exact absurd dz (nF _)
           · rfl)
     · cases h
   · cases h
theorem j0 (a : Act) (dst : Option Tmp) (v : Value) : (a.put dst v).defers = a.defers /\ (a.put dst v).tmps.size = a.tmps.size := by
 cases dst <;> simp [Act.put]
theorem eo.dc {a : Act} (hr : eo g ρ a.tmps) {dst : Option Tmp} {x : AV} {v : Value} (hd : ∀ d, dst = some d -> d < a.tmps.size) (hx : ak g x v) : eo g (ρ.dc dst x) (a.put dst v).tmps := by
 cases dst with
 | none => exact hr
 | some d => exact hr.put (hd d rfl) hx
theorem pL : ak g (.aL []) undef := by simp only [ak]; exact ⟨[], rfl, by simp [ar]⟩
def KQ (Q : Ex -> Env -> St -> Prop) : Env -> St -> Prop := fun ρ U => Q .normal ρ U
def sN (Q : Ex -> Env -> St -> Prop) : AV -> St -> Prop := fun x U => ∀ ρ, Q (.panic x) ρ U
theorem lH {o : Oper} (bV : vJ nt o = true) {mu : Bool} {K : AV -> St -> Prop} {Kp : AV -> St -> Prop} {ds : List Deferred} {next : Act -> World -> Prop} {a : Act}
 (hs : aQ g U w) (hG : eL C g) (hr : eo g ρ a.tmps) (hn : a.tmps.size = nt)
 (h : (fR C mu o.op ρ U).wp C U K Kp)
 (km : ∀ g' ad w' x v, Gh.Le g g' -> aQ g' ad w' -> ak g' x v -> K x ad -> next (a.put o.dst v) w')
 {QQ : Exit -> Act -> World -> Prop} (A0 : ∀ g' ad w' x v, Gh.Le g g' -> aQ g' ad w' -> ak g' x v -> Kp x ad -> QQ (.panic [{ v, recovered := false }]) a w') :
 o.wpIn (FW fr) 0 C.P a w next QQ := by
 refine ⟨fun _ _ => trivial, ?_⟩
 have Ku : ∀ c, o.op ≠ .defer c := fun c e => by simp [vJ, e] at bV
 rw [Oper.semAt_eq _ _ _ Ku]
 have fits := KZ (C := C) hs hG hr mu o
 generalize hres : (execOp a.eval o).run C.P w = res at fits ⊢
 generalize fR C mu o.op ρ U = r at fits h
 have val : ∀ {x ad}, (∃ u w' g', (res = .ok (.value u) w' \/ (res = .ok .skip w' /\ u = undef)) /\ Gh.Le g g' /\ aQ g' ad w' /\ ak g' x u) -> K x ad -> o.uponIn (FW fr) 0 C.P a next QQ res := by
  rintro x ad ⟨u, w', g', hu, hle, c7, hx⟩ hk
  rcases hu with rfl | ⟨rfl, rfl⟩
  · exact km g' ad w' x u hle c7 hx hk
  · exact km g' ad w' x undef hle c7 hx hk
 induction r with
 | val v => exact val fits h
 | ir v b x => exact val fits h
 | new k del x => obtain ⟨u, w', g', b, rfl, hb, hle, c7, hx⟩ := fits; exact km g' _ w' _ u hle c7 hx (h b hb)
 | gT b l => obtain ⟨u, w', g', v, x, rfl, hm, hle, c7, hx⟩ := fits; exact km g' _ w' _ u hle c7 hx (h (v, x) hm)
 | enter f args =>
   obtain ⟨vs, w', rfl, c7, ha⟩ := fits
   refine ⟨fun hd => by simp [FW, Fence.wide] at hd, ?_⟩
   have hc : CallsIn (FW fr) 0 C.P f (List.toArray vs) w' (kx g (al K Kp)) := h g w' vs c7 hG ha
   refine hc.mono ?_
   rintro e w2 hp
   cases e with
   | returned v => obtain ⟨g', ad, x, h1, h2, h3, h4⟩ := hp; exact km g' ad w2 x v h1 h2 h3 h4
   | panicked ch => obtain ⟨g', ad, x, v, rfl, h1, h2, h3, h4⟩ := hp; exact A0 g' ad w2 x v h1 h2 h3 h4
   | outgrown => exact hp.elim
 | yield l args =>
   obtain ⟨vs, x, w0, w', hx, rfl, rfl, c7, ha⟩ := fits
   obtain ⟨fn, tmps, assign, body, hy, hR⟩ := h g w' vs x c7 hG ha hx
   rw [hy]
   refine ⟨fun hd => by simp [FW, Fence.wide] at hd, ?_⟩
   have hc : RoundIn (FW fr) 0 C.P x.ax fn tmps assign body w' (kx g (al K Kp)) := hR
   refine hc.mono ?_
   rintro e w2 hp
   cases e with
   | returned v => obtain ⟨g', ad, x, h1, h2, h3, h4⟩ := hp; exact km g' ad w2 x v h1 h2 h3 h4
   | panicked ch => obtain ⟨g', ad, x, v, rfl, h1, h2, h3, h4⟩ := hp; exact A0 g' ad w2 x v h1 h2 h3 h4
   | outgrown => exact hp.elim
 | panic v => obtain ⟨u, w', rfl, c7, hx⟩ := fits; exact A0 g _ w' v u (Gh.Le.refl g) c7 hx h
 | cond p r ih => exact ih (fits h.1) h.2
 | bad => exact h.elim
theorem rN {mu : List Nat} {ops : Array Oper} (bV : jk nt ops = true) (g0 : Gh) : ∀ (l : List Nat) (g : Gh) (U : St) (w : World) (ρ : Env) (a : Act) (ds : List Deferred), Gh.Le g0 g -> aQ g U w -> eL C g -> eo g ρ a.tmps -> a.tmps.size = nt -> a.defers = ds ->
 kL C mu ops (l.filterMap (ops[·]?)) ρ U (KQ Q) (sN Q) -> wpOpsIn (FW fr) 0 C.P ops (mz g0 nt nm ds Q) l a w
 | [], g, U, w, ρ, a, ds, h0, hs, hG, hr, hn, hd, h => by
   simp only [wpOpsIn]
   exact ⟨hn, g, U, ρ, [], by simpa using hd, ib _ _ _, h0, hs, hr, h⟩
 | i :: rest, g, U, w, ρ, a, ds, h0, hs, hG, hr, hn, hd, h => by
   simp only [wpOpsIn]
   cases ho : ops[i]? with
   | none =>
     simp only [List.filterMap_cons, ho] at h
     exact rN bV g0 rest g U w ρ a ds h0 hs hG hr hn hd h
   | some o =>
     dsimp only
     simp only [List.filterMap_cons, ho, kL] at h
     have je : o ∈ ops.toList := by
      have := fw (l := ops.toList) (i := i) (a := o) (by rw [gE]; exact ho)
      exact this
     have AZ : vJ nt o = true := by
      unfold jk at bV
      rw [dU] at bV
      exact bV o je
     have Kv : ∀ d, o.dst = some d -> d < a.tmps.size := fun d sA => by
      simp only [vJ, sA, bF, dp] at AZ
      rw [hn]; exact AZ.1
     have go : ∀ g' ad w' x v, Gh.Le g g' -> aQ g' ad w' -> ak g' x v -> kL C mu ops (rest.filterMap (ops[·]?)) (ρ.dc o.dst x) ad (KQ Q) (sN Q) -> wpOpsIn (FW fr) 0 C.P ops (mz g0 nt nm ds Q) rest (a.put o.dst v) w' := fun g' ad w' x v hle c7 hx hk =>
      rN bV g0 rest g' ad w' (ρ.dc o.dst x) (a.put o.dst v) ds (h0.trans hle) c7 (hG.mono hle) ((hr.mono hle).dc Kv hx) (by rw [(j0 a o.dst v).2]; exact hn) (by rw [(j0 a o.dst v).1]; exact hd) hk
     cases GC : eQ ops ρ o.guard <;> rw [GC] at h <;> simp only [ay] at h
     rename_i b
     have hw := uO hr GC
     cases b
     · rw [if_neg (by rw [hw]; simp)]
       exact ⟨fun _ _ => trivial, go g U w (.aL []) undef (Gh.Le.refl g) hs pL (h.2 rfl)⟩
     · rw [if_pos hw]
       refine lH AZ hs hG hr hn (h.1 rfl) go ?_ (ds := ds)
       intro g' ad w' x v hle c7 hx hk
       exact ⟨hn, g', ad, ρ, [], by simpa using hd, ib _ _ _, h0.trans hle, c7, hr.mono hle, x, v, rfl, hx, hk ρ⟩
theorem xg (ops : Array Oper) : (List.range ops.size).filterMap (ops[·]?) = ops.toList := by
 apply List.ext_getElem?
 intro i
 have : ∀ n, n <= ops.size -> (List.range n).filterMap (ops[·]?) = ops.toList.take n := fun n => by
  induction n with
  | zero => intro _; simp
  | succ n ih =>
    intro hn
    rw [List.range_succ, List.filterMap_append, ih (by omega), tP]
    have : ops[n]? = some ops[n] := by simp
    simp [this]
 rw [this ops.size (cA _), vN (by simp)]
theorem aY.region {id : Nat} {ops : Array Oper} (mu : List Nat) (bV : jk nt ops = true) (h : kL C mu ops ops.toList ρ U (KQ Q) (sN Q)) : aY C nt ro (.region id ops false) Q ρ U := by
 intro g w a fr h1 h2 h3 h4 pn
 exact wpIn_region (rN bV g (List.range ops.size) g U w ρ a a.defers (Gh.Le.refl g) h1 h2 h3 h4 rfl (by rw [xg]; exact h))
end
end Go.Rip
namespace Go.Rip
open Go.RowKit
def jQ (x : AV) (U : St) (x' : AV) (ad : St) : Prop := ∀ g w v, aQ g U w -> ak g x v -> ∃ g', Gh.Le g g' /\ aQ g' ad w /\ ak g' x' v
theorem jQ.refl (x : AV) (U : St) : jQ x U x U := fun g w v h hr => ⟨g, Gh.Le.refl g, h, hr⟩
theorem jQ.trans {x y z : AV} {a b c : St} (h : jQ x a y b) (k : jQ y b z c) : jQ x a z c := fun g w v hs hr =>
 let ⟨g1, l1, s1, r1⟩ := h g w v hs hr
 let ⟨g2, l2, s2, r2⟩ := k g1 w v s1 r1
 ⟨g2, l1.trans l2, s2, r2⟩
theorem jQ.weaken (x : AV) {U ad : St} (h : St.Le ad U) : jQ x U x ad := fun g w v hs hr => ⟨g, Gh.Le.refl g, hs.weaken h, hr⟩
theorem jQ.freeze {b : Nat} {U : St} {l : List AV} (hb : U.box b = some l) : jQ (.box b 0) U (.bL l) (U.del b) := fun g w v hs hr => by
 simp only [ak] at hr
 obtain ⟨x, hx, rfl⟩ := hr
 obtain ⟨g', vs, hle, _, hi, hl, c7⟩ := hs.freeze hb hx
 exact ⟨g', hle, c7, by simp only [ak]; exact ⟨x.ax, 0, vs, rfl, hi, hl.mono hle⟩⟩
def uy (P : Program) (t : TypeId) (p : AV) (U : St) (k : AV -> Prop) : Prop :=
 match pB P t p U with
 | .val v => k v
 | @aA.cond q _ (.val v) => q /\ k v
 | _ => False
def p7 (P : Program) (ρ : Env) (U : St) : List ResultVar -> (List AV -> Prop) -> Prop
 | [], k => k []
 | .tmp t :: rs, k => p7 P ρ U rs fun vs => k (ρ.get t :: vs)
 | .cell t ty :: rs, k => uy P ty (ρ.get t) U fun v => p7 P ρ U rs fun vs => k (v :: vs)
def qe : List AV -> AV
 | [x] => x
 | l => .aL l
def WH (P : Program) (fn : Func) (R : cm -> St -> Prop) : Ex -> Env -> St -> Prop
 | .normal, ρ, U | .ret, ρ, U => p7 P ρ U fn.results.toList fun vs => ∃ x ad, jQ (qe vs) U x ad /\ R (.ret x) ad
 | .panic x, _, U => R (.panic x) U
 | .exit _, _, _ => False
def Env.fQ (args : List AV) : Env := ⟨fun t => args.getD t (.aL [])⟩
section
variable {C : bQ} {g : Gh} {U : St} {w : World} {nt : Nat} {ro : Ro} {Q : Ex -> Env -> St -> Prop} {ρ : Env}
theorem He (h : aQ g U w) {t : TypeId} {p : AV} {v : Value} (hp : ak g p v) {k : AV -> Prop} (hk : uy C.P t p U k) : ∃ u x, (do loadVar t (<- asAddr v) : Sem Value).run C.P w = .ok u w /\ ak g x u /\ k x := by
 unfold uy pB at hk
 cases hv : jJ C.P t with
 | none => simp [hv] at hk
 | some bs =>
   obtain ⟨b, sz⟩ := bs
   cases hl : iz U p with
   | none => rw [hv, hl] at hk; cases b <;> simp at hk
   | some l =>
     rw [hv, hl] at hk
     obtain ⟨i, d, hi, hd, hb, cY⟩ := ke hv
     obtain ⟨a, vs, rfl, ha, hr, hc⟩ := nf h hp hl
     cases b
     · cases l with
       | nil => simp [eR] at hk
       | cons x xs =>
         simp only [eR] at hk
         simp only [ar] at hr
         obtain ⟨u, us, rfl, h1, h2⟩ := hr
         have := (hc 0 u rfl).1
         have h0 : a.add 0 = a := by simp [Addr.add]
         rw [h0] at this
         refine ⟨u, x, ?_, h1, hk⟩
         simp only [asAddr, loadVar, bo, bK, bG, gV hd, hb, bl, if_false, run_load, this, dj]
     · obtain ⟨hle, hk⟩ := hk
       have hlen := hr.length
       have eC : (loadCells a (vs.take sz).length).run C.P w = .ok (vs.take sz).toArray w :=
        run_loadCells_list (P := C.P) w a (vs.take sz) fun j u hu => by
         rw [List.getElem?_take] at hu
         split at hu
         · exact (hc j u hu).1
         · cases hu
       have po : (vs.take sz).length = sz := by simp; omega
       rw [po] at eC
       have Gp : ∀ u ∈ vs.take sz, u.oneCell' = true := fun u hu => by
        obtain ⟨j, hj⟩ := List.getElem?_of_mem hu
        rw [List.getElem?_take] at hj
        split at hj
        · exact (hc j u hj).2
        · cases hj
       refine ⟨.agg (vs.take sz).toArray, _, ?_, ?_, hk⟩
       · simp only [asAddr, loadVar, bo, bK, bG, gV hd, hb, if_true, c6 hi, cY, eC, dj]
       · simp only [ak]; exact ⟨_, rfl, Gp, hr.take sz⟩
theorem vQ (h : aQ g U w) {a : Act} (hr : eo g ρ a.tmps) : ∀ (rs : List ResultVar) (k : List AV -> Prop), p7 C.P ρ U rs k ->
 ∃ us xs, (rs.mapM (fun
  | .tmp t => pure (a.tmps.getD t undef)
  | .cell p t => do loadVar t (<- asAddr (a.tmps.getD p undef)) : ResultVar -> Sem Value)).run C.P w = .ok us w /\ ar g xs us /\ k xs
 | [], k, hk => ⟨[], [], by simp, by simp [ar], hk⟩
 | .tmp t :: rs, k, hk => by
   obtain ⟨us, xs, h1, h2, h3⟩ := vQ h hr rs _ hk
   exact ⟨a.tmps.getD t undef :: us, ρ.get t :: xs, by simp only [List.mapM_cons, bo, bK, bG, h1], by simp only [ar]; exact ⟨_, _, rfl, hr t, h2⟩, h3⟩
 | .cell p t :: rs, k, hk => by
   obtain ⟨u, x, h4, h5, h6⟩ := He h (hr p) hk
   obtain ⟨us, xs, h1, h2, h3⟩ := vQ h hr rs _ h6
   simp only [bo] at h4
   exact ⟨u :: us, x :: xs, by simp only [List.mapM_cons, bo, bK, h4, bG, h1], by simp only [ar]; exact ⟨_, _, rfl, h5, h2⟩, h3⟩
theorem u9 (h : aQ g U w) {a : Act} (hr : eo g ρ a.tmps) {fn : Func} {k : List AV -> Prop} (hk : p7 C.P ρ U fn.results.toList k) :
 ∃ u xs, (results fn a.tmps).run C.P w = .ok u w /\ ak g (qe xs) u /\ k xs := by
 obtain ⟨us, xs, h1, h2, h3⟩ := vQ h hr _ k hk
 have e : (results fn a.tmps).run C.P w = .ok (if h : us.toArray.size = 1 then us.toArray[0] else .tuple us.toArray) w := by
  unfold results
  rw [Array.mapM_eq_mapM_toList]
  simp only [bo, Sem.run_map, bK]
  erw [h1]
  rfl
 refine ⟨_, xs, e, ?_, h3⟩
 match xs, us, h2 with
 | [], us, h2 =>
   simp only [ar] at h2; subst h2
   simp [qe, ak, ar]
 | [x], us, h2 =>
   simp only [ar] at h2
   obtain ⟨u, _, rfl, h4, rfl⟩ := h2
   simpa [qe] using h4
 | x :: y :: zs, us, h2 =>
   have hl := h2.length
   rw [dif_neg (by simp at hl ⊢; omega)]
   simp only [qe, ak]
   exact ⟨us, rfl, h2⟩
theorem vr (args : List AV) (vs : List Value) (n : Nat) (ha : ar g args vs) : eo g (Env.fQ args) (vs.toArray ++ Array.replicate n undef) := fun t => by
 simp only [Env.fQ, Array.getD_eq_getD_getElem?, yo, Array.getElem?_append, List.size_toArray, List.getElem?_toArray]
 have hl := ha.length
 by_cases ht : t < vs.length
 · rw [if_pos ht]
   obtain ⟨x, hx⟩ : ∃ x, args[t]? = some x := ⟨args[t]'(by omega), by simp⟩
   obtain ⟨v, hv, hr⟩ := ha.get hx
   rw [hx, hv]; exact hr
 · rw [if_neg ht, rU (by omega)]
   simp only [Option.getD_none]
   have : ((Array.replicate n undef)[t - vs.length]?).getD undef = undef := by
    rw [Array.getElem?_replicate]; split <;> rfl
   rw [this]; exact pL
theorem mr {fn : Func} {a : Act} {R : cm -> St -> Prop} (g0 : Gh) : ∀ (ms : List Nat) (g : Gh) (w : World) (u : FrameMode), ms.Nodup -> (∀ r ∈ ms, g.res r = true /\ g0.res r = false) -> Gh.Le g0 g -> aQ g U w -> eo g ρ a.tmps ->
 ((u = .returning /\ p7 C.P ρ U fn.results.toList fun vs => ∃ x ad, jQ (qe vs) U x ad /\ R (.ret x) ad) \/ (∃ x v, u = .panicking [{ v, recovered := false }] /\ ak g x v /\ R (.panic x) U)) ->
 LeavesInM Fence.wide 0 C.P fn a.tmps (kx g0 R) (ms.map zS) u w
 | [], g, w, u, _, _, hle, hs, hr, h => by
   simp only [iL, LeavesInM]
   rcases h with ⟨rfl, h⟩ | ⟨x, v, rfl, hx, h⟩
   · obtain ⟨v, xs, eC, hv, x, ad, ht, hR⟩ := u9 hs hr h
     obtain ⟨g', Ez, c7, hx⟩ := ht g w v hs hv
     exact ⟨v, eC, g', ad, x, hle.trans Ez, c7, hx, hR⟩
   · exact ⟨g, U, x, v, rfl, hle, hs, hx, h⟩
 | r :: ms, g, w, u, hnd, pq, hle, hs, hr, h => by
   simp only [de, LeavesInM]
   refine ⟨by rcases h with ⟨rfl, _⟩ | ⟨_, _, rfl, _⟩ <;> simp, .inl ⟨r, { w with heap := w.heap.setIfInBounds r (Obj.deferred none) }, rfl, ?_, ?_⟩⟩
   · obtain ⟨_, hh⟩ := hs.res r (pq r (by simp)).1
     simp [Instr.takeDeferred, getObj, setObj, bo, Sem.run, hh, Result.andThen]
   · have UW : Gh.ow g { g with res := fun x => if x = r then false else g.res x } := ⟨fun _ _ h => h, fun _ _ _ h => h, fun _ _ h => h⟩
     refine mr g0 ms { g with res := fun x => if x = r then false else g.res x } _ u (List.nodup_cons.1 hnd).2 (fun q hq => ?_) ?_ (hs.shut (pq r (by simp)).1) (fun t => (hr t).da UW) ?_
     · refine ⟨?_, (pq q (by simp [hq])).2⟩
       show (if q = r then false else g.res q) = true
       rw [if_neg (fun e : q = r => by subst e; exact (List.nodup_cons.1 hnd).1 hq)]
       exact (pq q (by simp [hq])).1
     · refine ⟨hle.base, hle.w0, hle.place, hle.bq, hle.bg, fun q hq => ?_, hle.tu, hle.qD⟩
       show (if q = r then false else g.res q) = true
       have bX : q ≠ r := fun e => by subst e; rw [(pq q (by simp)).2] at hq; cases hq
       rw [if_neg bX]
       exact hle.res q hq
     · rcases h with h | ⟨x, v, h1, h2, h3⟩
       · exact .inl h
       · exact .inr ⟨x, v, h1, h2.da UW, h3⟩
theorem ae.DL {f : FuncId} {fn : Func} {c : Code} {args : List AV} {R : cm -> St -> Prop} (hf : C.P.funcs[f]? = some fn) (hb : fn.body = some c) (hlen : args.length <= fn.ntmps)
 (h : aY C fn.ntmps .fn c (WH C.P fn R) (Env.fQ args) U) : ae C f args U R := by
 intro g w vs hs hG ha
 have hl := ha.length
 refine callsIn_of_wp_marks hf hb trivial ?_
 have x8 := vr args vs (fn.ntmps - args.length) ha
 have := h g w { tmps := vs.toArray ++ Array.replicate (fn.ntmps - vs.toArray.size) undef, defers := [] } none hs hG (by
  have e : vs.toArray.size = args.length := by simpa using hl
  rw [e]; exact x8) (by simp; omega) trivial
 refine wpIn_mono this ?_
 rintro e a w' ⟨k1, g', ad, cO, ms, k2, k3, k4, k5, k6, k7⟩
 simp only [jI] at k2
 cases e with
 | normal =>
   show LeavesInM _ _ _ _ _ _ a.defers _ _
   rw [k2]
   exact mr g ms g' w' _ k3.nodup k3.res k4 k5 k6 (.inl ⟨rfl, k7⟩)
 | ret =>
   show LeavesInM _ _ _ _ _ _ a.defers _ _
   rw [k2]
   exact mr g ms g' w' _ k3.nodup k3.res k4 k5 k6 (.inl ⟨rfl, k7⟩)
 | panic ch =>
   obtain ⟨x, v, rfl, hx, hR⟩ := k7
   show LeavesInM _ _ _ _ _ _ a.defers _ _
   rw [k2]
   exact mr g ms g' w' _ k3.nodup k3.res k4 k5 k6 (.inr ⟨x, v, rfl, hx, hR⟩)
 | exit id => exact k7.elim
 | goto l => exact k7.elim
 | outgrown => exact k7.elim
def Pure (C : bQ) (f : FuncId) (args : List AV) (x : AV) : Prop := ∀ U R, R (.ret x) U -> ae C f args U R
end
end Go.Rip
namespace Go.Rip
open Go.RowKit
section
variable {C : bQ} {g : Gh} {U : St} {w : World} {nt : Nat} {ro : Ro} {Q : Ex -> Env -> St -> Prop} {ρ : Env}
def Rt (o : Nat) (Q : Ex -> Env -> St -> Prop) (ρ : Env) : cm -> St -> Prop
 | .ret _, ad => ∃ L, ad.loop o = some L /\ L.state ≠ .busy /\ (match L.dN with
   | none => Q .normal ρ (ad.del o)
   | some .ret => Q .ret ρ (ad.del o)
   | some (.exit id) => Q (.exit id) ρ (ad.del o)
   | _ => False)
 | .panic x, ad => Q (.panic x) ρ ad
theorem aQ.J5 (h : aQ g U w) {o : Nat} {L : eg} {p : Place} (ho : U.loop o = some L) (hp : g.place o = some p) (x : Loop) :
 aQ g (U.del o) { w with heap := w.heap.setIfInBounds p.ax (.loop x) } := by
 obtain ⟨p', k1, k2, fn, tmps, defers, k3, _⟩ := h.live o _ (St.jg.1 ho)
 rw [hp] at k1; cases k1
 refine (h.weaken (St.oz U o)).change p.ax k2 (Gh.Le.refl g) rfl rfl ⟨rfl, rfl, rfl, by simp⟩ (fun k hk _ => Array.getElem?_setIfInBounds_ne (Ne.symm hk)) (fun _ _ _ => rfl) (fun _ _ => rfl) (fun q u hu => ?_) (fun es c hr => ?_) (fun b' x' p' h1 h2 e => ?_) (h.o0 (St.jg.1 ho) hp)
 · have := (h.bq _ _ _ hu).1; simp [World.cell?, k3] at this
 · have := (h.bg _ _ _ hr).1; rw [k3] at this; cases this
 · simp only [St.del] at h1
   split at h1
   · cases h1
   · rename_i ne; exact ne (h.apart _ _ _ _ _ _ h1 (St.jg.1 ho) h2 hp e)
theorem aQ.mU (h : aQ g U w) {o : Nat} {L L' : eg} {p : Place} (ho : U.loop o = some L) (hp : g.place o = some p) {fn : FuncId} {tmps : Array Value} {defers : Nat}
 (hn : tmps.size = L'.nt) (hr : ∀ t, ak g (L'.ρ t) (tmps.getD t undef)) :
 aQ g (U.set o (.loop L')) { w with heap := w.heap.setIfInBounds p.ax (.loop { state := L'.state, pending := L'.dN, fn, tmps, params := L'.params, assign := L'.assign, body := L'.body, defers }) } := by
 obtain ⟨p', k1, k2, Md, zY, um, k3, _⟩ := h.live o _ (St.jg.1 ho)
 rw [hp] at k1; cases k1
 have aH := (gD.1 k3).1
 refine h.rewrite (St.jg.1 ho) hp ⟨rfl, rfl, rfl, by simp⟩ (fun k hk _ => Array.getElem?_setIfInBounds_ne (Ne.symm hk)) (fun q => ?_) ?_ ⟨fn, tmps, defers, by simp [aH], hn, hr⟩
 · cases e : g.bq p.ax q with
   | none => rfl
   | some u => have := (h.bq _ _ _ e).1; simp [World.cell?, k3] at this
 · cases e : g.bg p.ax with
   | none => rfl
   | some u => have := (h.bg _ _ _ e).1; rw [k3] at this; cases this
theorem aY.rangeFunc (tag : Nat) {f : Operand} {ps : Array Tmp} {assign body : Code} {gd : FuncId} {first cap : List AV} (hf : ρ.ev C f = .func (.func gd) first cap) (oF : cX C.P gd = true)
 (h : ∀ o, U.cj o -> ae C gd (first ++ [.nB o] ++ cap) (U.new o (.loop ⟨ρ.get, nt, ps, assign, body, .ready, none, tag⟩)) (Rt o Q ρ)) : aY C nt .fn (.rangeFunc f ps assign body) Q ρ U := by
 intro g w a fr hs hG hr hn pn
 cases fr with
 | some l => exact pn.elim
 | none =>
 have Qp := oB hG hr f
 rw [hf] at Qp
 simp only [ak] at Qp
 obtain ⟨fs, cs, hval, Gz, oE⟩ := Qp
 refine wpIn_rangeFunc fun fn _ => ?_
 obtain ⟨AS, tn⟩ := hs.N7
 have Yw := hr.mono AS
 obtain ⟨o, g2, f1, f2, f3, f4⟩ := tn.oR (.loop { state := .ready, pending := none, fn := fn, tmps := a.tmps, params := ps, assign, body, defers := w.heap.size }) 0 0 (.loop ⟨ρ.get, nt, ps, assign, body, .ready, none, tag⟩)
  fun g' hle _ _ => ⟨fn, a.tmps, w.heap.size, heap_alloc_new _ _, hn, fun t => (Yw t).mono hle⟩
 have oI := AS.trans f2
 obtain ⟨AD, hfn, QK, Yh⟩ : ∃ AD, C.P.funcs[gd]? = some AD /\ AD.body.isNone = false /\ (AD.name == "runtime.NumGoroutine") = false := by
  unfold cX at oF
  split at oF
  · rename_i AD hfn
    simp only [bF, Bool.not_eq_true'] at oF
    exact ⟨AD, hfn, by cases hb : AD.body <;> simp_all, oF.2⟩
  · cases oF
 refine ⟨w.heap.size + 1, [{ target := .collected w.heap.size, args := #[] }], ((w.alloc (.deferred (some []))).alloc (.loop { state := .ready, pending := none, fn := fn, tmps := a.tmps, params := ps, assign, body, defers := w.heap.size })),
  { target := .fn (.func gd) cs.toArray, args := fs.toArray ++ #[.func (.yield (w.heap.size + 1)) #[] #[]] }, ((w.alloc (.deferred (some []))).alloc (.loop { state := .ready, pending := none, fn := fn, tmps := a.tmps, params := ps, assign, body, defers := w.heap.size })), gd, (fs.toArray ++ #[.func (.yield (w.heap.size + 1)) #[] #[]]) ++ cs.toArray, ((w.alloc (.deferred (some []))).alloc (.loop { state := .ready, pending := none, fn := fn, tmps := a.tmps, params := ps, assign, body, defers := w.heap.size })), ?_, ?_, fun _ _ => trivial, ?_, fun hd => by simp [FW, Fence.wide] at hd, ?_⟩
 · simp only [Instr.enterLoop, FW, bo, run_newObj, bK, bG]
   rw [Array.size_push]
   rfl
 · simp only [resolve, rangeCall, List.map_toArray, de, iL]
   rw [hval]
   simp only [Deferred.ofValue, bK]
   rfl
 · simp only [invoke, callFunc, bo, bK, bG, run_program, hfn, Yh, QK, bl, if_false, dj]
 · have hc := h o f1 g2 _ (fs ++ [Value.func (.yield (w.heap.size + 1)) #[] #[]] ++ cs) f4 (hG.mono oI) (((Gz.mono oI).append (by
    simp only [ar]
    exact ⟨_, _, rfl, by simp only [ak]; exact ⟨_, f3, by simp⟩, rfl⟩)).append (oE.mono oI))
   have e : (fs ++ [Value.func (.yield (w.heap.size + 1)) #[] #[]] ++ cs).toArray = fs.toArray ++ #[Value.func (.yield (w.heap.size + 1)) #[] #[]] ++ cs.toArray := by simp
   rw [e] at hc
   have Dl : CallsIn (FW none) 0 C.P gd _ _ _ := hc
   refine Dl.mono ?_
   rintro e w3 hp
   have GJ : ∀ g3, Gh.Le g2 g3 -> ki false g g3 [w.heap.size] := fun g3 hl => ⟨fun h => (by cases h), by simp, fun r hr => by
    simp only [kO] at hr; subst hr
    exact ⟨hl.res _ (f2.res _ (by simp)), hs.yq (cA _)⟩⟩
   cases e with
   | returned v =>
     obtain ⟨g3, cC, x, h1, h2, h3, L, h4, h5, h6⟩ := hp
     obtain ⟨p, q1, q2, Md, zY, um, q3, q4, q5⟩ := h2.live o _ (St.jg.1 h4)
     have oK : g3.place o = some ⟨w.heap.size + 1, 0, 0⟩ := h1.place _ _ (by rw [f3]; simp)
     rw [oK] at q1; cases q1
     have tj : (getObj (w.heap.size + 1)).run C.P w3 = .ok (.loop { state := L.state, pending := L.dN, fn := Md, tmps := zY, params := L.params, assign := L.assign, body := L.body, defers := um }) w3 := by simp [getObj, Sem.run, q3]
     have GM : ∀ x, (setObj (w.heap.size + 1) x).run C.P w3 = .ok () { w3 with heap := w3.heap.setIfInBounds (w.heap.size + 1) x } := fun x => by simp [setObj, Sem.run, q3]
     have Tt : (L.state == LoopState.busy) = false := by
      cases hL : L.state <;> first
       | rfl
       | exact absurd hL h5
     have AM : (Instr.endLoop (w.heap.size + 1)).run C.P w3 = .ok L.dN { w3 with heap := w3.heap.setIfInBounds (w.heap.size + 1) (.loop { state := .exhausted, pending := L.dN, fn := Md, tmps := zY, params := L.params, assign := L.assign, body := L.body, defers := um }) } := by
      simp only [Instr.endLoop, Instr.getLoop, bo, tj, bG, bK, Tt, bl, if_false, dj, GM]
     have QS := h2.J5 h4 oK { state := .exhausted, pending := L.dN, fn := Md, tmps := zY, params := L.params, assign := L.assign, body := L.body, defers := um }
     have post : ∀ ex, AA g3 Q ρ (cC.del o) ex -> mz g nt false a.defers Q ex { a with defers := [{ target := .collected w.heap.size, args := #[] }] ++ a.defers } _ := fun ex hq =>
      ⟨hn, g3, cC.del o, ρ, [w.heap.size], rfl, GJ g3 h1, oI.trans h1, QS, hr.mono (oI.trans h1), hq⟩
     refine ⟨L.dN, _, AM, ?_⟩
     generalize L.dN = dN at h6 post ⊢
     cases dN with
     | none => exact post .normal h6
     | some c =>
       cases c <;> first
        | exact h6.elim
        | exact wpIn_exit (post (.exit _) h6)
        | exact wpIn_ret (post .ret h6)
   | panicked ch =>
     obtain ⟨g3, cC, x, v, rfl, h1, h2, h3, h4⟩ := hp
     exact ⟨hn, g3, cC, ρ, [w.heap.size], rfl, GJ g3 h1, oI.trans h1, h2, hr.mono (oI.trans h1), x, v, rfl, h3, h4⟩
   | outgrown => exact hp.elim
def rT (ρ : Nat -> AV) : List Tmp -> List AV -> Nat -> AV
 | t :: ts, v :: vs => rT (fun x => if x = t then v else ρ x) ts vs
 | _, _ => ρ
theorem BK {ρ : Nat -> AV} {tmps : Array Value} : ∀ (ps : List Tmp) (args : List AV) (vs : List Value) (ρ : Nat -> AV) (tmps : Array Value), (∀ t, ak g (ρ t) (tmps.getD t undef)) -> (∀ t ∈ ps, t < tmps.size) -> ar g args vs ->
 ((ps.zip vs).foldl (fun (tmps : Array Value) (p : Tmp × Value) => tmps.setIfInBounds p.1 p.2) tmps).size = tmps.size /\ ∀ t, ak g (rT ρ ps args t) (((ps.zip vs).foldl (fun (tmps : Array Value) (p : Tmp × Value) => tmps.setIfInBounds p.1 p.2) tmps).getD t undef)
 | [], args, vs, ρ, tmps, h, _, _ => by simpa [rT] using h
 | t :: ts, [], vs, ρ, tmps, h, _, ha => by
   simp only [ar] at ha; subst ha
   simpa [rT] using h
 | t :: ts, x :: args, vs, ρ, tmps, h, hl, ha => by
   simp only [ar] at ha
   obtain ⟨v, vs, rfl, hx, ha⟩ := ha
   simp only [List.zip_cons_cons, List.foldl_cons, rT]
   have h1 : ∀ t', ak g ((fun y => if y = t then x else ρ y) t') ((tmps.setIfInBounds t v).getD t' undef) := (eo.put (g := g) (ρ := ⟨ρ⟩) h (hl t (by simp)) hx)
   obtain ⟨h2, h3⟩ := BK (ρ := ρ) (tmps := tmps) ts args vs _ (tmps.setIfInBounds t v) h1 (fun t' tp => by simpa using hl t' (by simp [tp])) ha
   exact ⟨by rw [h2]; simp, h3⟩
def Rv (o : Nat) (R : cm -> St -> Prop) : Ex -> Env -> St -> Prop
 | .normal, _, U => ∃ L, U.loop o = some L /\ R (.ret (.bool true)) (U.set o (.loop { L with state := .ready, dN := none }))
 | .ret, _, U => ∃ L, U.loop o = some L /\ R (.ret (.bool false)) (U.set o (.loop { L with state := .done, dN := some .ret }))
 | .exit id, _, U => ∃ L, U.loop o = some L /\ R (.ret (.bool false)) (U.set o (.loop { L with state := .done, dN := some (.exit id) }))
 | .panic _, _, _ => False
def ND (C : bQ) (o : Nat) (body : Code) (nt : Nat) (R : cm -> St -> Prop) : Ex -> Env -> St -> Prop
 | .normal, ρ, U => ∃ L, U.loop o = some L /\ L.state = .ready /\ aY C nt (.round o) body (Rv o R) ρ (U.set o (.loop { L with state := .busy }))
 | _, _, _ => False
theorem iy.BD {o : Nat} {args : List AV} {R : cm -> St -> Prop} {L : eg} (hL : U.loop o = some L) (hargs : args.length = L.params.size) (Mz : ∀ t ∈ L.params.toList, t < L.nt)
 (h : aY C L.nt (.round o) L.assign (ND C o L.body L.nt R) ⟨rT L.ρ L.params.toList args⟩ U) : iy C o args U R := by
 intro g w vs x hs hG ha hx
 obtain ⟨p, k1, k2, fn, tmps, defers, k3, k4, k5⟩ := hs.live o _ (St.jg.1 hL)
 rw [hx] at k1; cases k1
 have tj : (getObj x.ax).run C.P w = .ok (.loop { state := L.state, pending := L.dN, fn, tmps, params := L.params, assign := L.assign, body := L.body, defers }) w := by simp [getObj, Sem.run, k3]
 have cY : vs.length = L.params.size := by rw [ha.length, hargs]
 obtain ⟨z1, z2⟩ := BK (g := g) (ρ := L.ρ) (tmps := tmps) L.params.toList args vs L.ρ tmps k5 (fun t ht => by rw [k4]; exact Mz t ht) ha
 have Tm : (L.params.zip vs.toArray).foldl (fun (tmps : Array Value) (p : Tmp × Value) => tmps.setIfInBounds p.1 p.2) tmps = (L.params.toList.zip vs).foldl (fun (tmps : Array Value) (p : Tmp × Value) => tmps.setIfInBounds p.1 p.2) tmps := by
  rw [<- Array.foldl_toList]; congr 1; simp
 refine ⟨fn, (L.params.toList.zip vs).foldl (fun (tmps : Array Value) (p : Tmp × Value) => tmps.setIfInBounds p.1 p.2) tmps, L.assign, L.body, ?_, ?_⟩
 · simp only [Instr.yield, Instr.getLoop, bo, tj, bG, bK, List.size_toArray, cY, ne_eq, not_true_eq_false, if_false, dj]
   rw [<- Tm]
 · refine roundIn_of_wpIn trivial ?_
   have h1 := h g w { tmps := (L.params.toList.zip vs).foldl (fun (tmps : Array Value) (p : Tmp × Value) => tmps.setIfInBounds p.1 p.2) tmps, defers := [] } (some x.ax) hs hG z2 (by rw [<- k4]; exact z1) ⟨x, hx, rfl⟩
   have AI : L.assign.wpIn (Fence.wide.inRound x.ax) 0 C.P _ _ _ := h1
   refine wpIn_mono AI ?_
   rintro e a1 w1 ⟨q1, g1, bM, Zs, ms, q2, q3, q4, q5, q6, q7⟩
   cases e with
   | normal =>
     obtain ⟨L1, r1, r2, r3⟩ := q7
     obtain ⟨p, k1, k2, fn, tmps, defers, k3, k4, k5⟩ := q5.live o _ (St.jg.1 r1)
     rw [q4.place _ _ hx] at k1; cases k1
     have tj : (getObj x.ax).run C.P w1 = .ok (.loop { state := L1.state, pending := L1.dN, fn, tmps, params := L1.params, assign := L1.assign, body := L1.body, defers }) w1 := by simp [getObj, Sem.run, k3]
     have GM : ∀ y, (setObj x.ax y).run C.P w1 = .ok () { w1 with heap := w1.heap.setIfInBounds x.ax y } := fun y => by simp [setObj, Sem.run, k3]
     have yY := q5.mU (L' := { L1 with state := .busy }) (fn := fn) (defers := defers) r1 (q4.place _ _ hx) k4 k5
     refine ⟨_, by simp only [Instr.beginRound, Instr.getLoop, bo, tj, bG, bK, GM, r2]; rfl, ?_⟩
     have h2 := r3 g1 _ a1 (some x.ax) yY (hG.mono q4) q6 q1 ⟨x, q4.place _ _ hx, rfl⟩
     have Xq : L.body.wpIn (Fence.wide.inRound x.ax) 0 C.P _ _ _ := h2
     refine wpIn_mono Xq ?_
     rintro e a2 w2 ⟨MP, g2, bN, nC, By, Rm, ZX, Vu, Vv, ZY, DR⟩
     have Ve := (q4.trans Vu).place _ _ hx
     have fin : ∀ (L2 : eg) (jump : Option Code) (st : LoopState), bN.loop o = some L2 -> (if jump.isNone then LoopState.ready else .done) = st -> R (.ret (.bool jump.isNone)) (bN.set o (.loop { L2 with state := st, dN := jump })) ->
      ∃ v w', (Instr.endRound x.ax jump).run C.P w2 = .ok v w' /\ kx g R (.returned v) w' := fun L2 jump st hl et hR => by
      obtain ⟨p, k1, k2, fn, tmps, defers, k3, k4, k5⟩ := Vv.live o _ (St.jg.1 hl)
      rw [Ve] at k1; cases k1
      have tj : (getObj x.ax).run C.P w2 = .ok (.loop { state := L2.state, pending := L2.dN, fn, tmps, params := L2.params, assign := L2.assign, body := L2.body, defers }) w2 := by simp [getObj, Sem.run, k3]
      have GM : ∀ y, (setObj x.ax y).run C.P w2 = .ok () { w2 with heap := w2.heap.setIfInBounds x.ax y } := fun y => by simp [setObj, Sem.run, k3]
      have QS := Vv.mU (L' := { L2 with state := st, dN := jump }) (fn := fn) (defers := defers) hl Ve k4 k5
      refine ⟨.bool jump.isNone, _, by simp only [Instr.endRound, Instr.getLoop, bo, tj, bG, bK, GM, et], g2, _, .bool jump.isNone, q4.trans Vu, QS, by simp only [ak], hR⟩
     cases e with
     | normal => obtain ⟨L2, hl, hR⟩ := DR; exact fin L2 none .ready hl rfl hR
     | ret => obtain ⟨L2, hl, hR⟩ := DR; exact fin L2 (some .ret) .done hl rfl hR
     | exit id => obtain ⟨L2, hl, hR⟩ := DR; exact fin L2 (some (.exit id)) .done hl rfl hR
     | panic ch => obtain ⟨x, v, _, _, hf⟩ := DR; exact hf.elim
     | goto l => exact DR.elim
     | outgrown => exact DR.elim
   | panic ch => obtain ⟨x, v, _, _, hf⟩ := q7; exact hf.elim
   | ret => exact q7.elim
   | exit id => exact q7.elim
   | goto l => exact q7.elim
   | outgrown => exact q7.elim
end
end Go.Rip
namespace Go.Rip
open Go.RowKit
section
variable {C : bQ} {g : Gh} {U ad : St} {w : World} {nt : Nat} {nm : Bool} {ro : Ro} {fr : Option Nat} {Q : Ex -> Env -> St -> Prop} {ρ cO : Env} {mu : Bool}
theorem oQ {l : List Operand} (h : ∀ x ∈ l, ρ.ev C x = cO.ev C x) : l.map (ρ.ev C) = l.map (cO.ev C) := List.map_congr_left h
theorem sv {parts : Array (Nat × Operand)} (h : ∀ x ∈ (parts.toList.map (·.2)).toArray, ρ.ev C x = cO.ev C x) : iB C ρ parts = iB C cO parts := by
 unfold iB
 apply List.map_congr_left
 intro p hp
 rw [h p.2 (by simp; exact ⟨p.1, by simpa using hp⟩)]
theorem Hv (o : Op) (h : ∀ x ∈ o.operands, ρ.ev C x = cO.ev C x) : fR C mu o ρ U = fR C mu o cO U := by
 cases o with
 | call c =>
   obtain ⟨callee, ⟨args⟩, ⟨No⟩⟩ := c
   simp only [fR, uk]
   have ha : args.map (ρ.ev C) = args.map (cO.ev C) := oQ fun x hx => h x (by simp only [Op.operands, Call.operands]; rw [Array.mem_append]; exact .inr (by simpa using hx))
   cases callee with
   | value f =>
     show eT C.P (ρ.ev C f) (args.map (ρ.ev C)) = eT C.P (cO.ev C f) (args.map (cO.ev C))
     rw [ha, h f (by simp [Op.operands, Call.operands])]
   | invoke r m => rfl
   | builtin b =>
     have hm : ∀ x ∈ args, ρ.ev C x = cO.ev C x := fun x hx => h x (by simp only [Op.operands, Call.operands]; rw [Array.mem_append]; exact .inr (by simpa using hx))
     split <;> simp_all
 | build t parts => simp only [fR]; rw [sv h]
 | buildSlice t n parts => simp only [fR]; rw [sv h]
 | makeFunc fn first cap =>
   simp only [fR]
   rw [oQ (l := first.toList) fun x hx => h x (by simp [Op.operands]; exact .inl (by simpa using hx)), oQ (l := cap.toList) fun x hx => h x (by simp [Op.operands]; exact .inr (by simpa using hx))]
 | slice t x lo hi m =>
   cases m with
   | some _ => rfl
   | none =>
     simp only [fR]
     have h1 := h x (by simp [Op.operands])
     have h2 : lo.map (ρ.ev C) = lo.map (cO.ev C) := by
      cases lo with
      | none => rfl
      | some y => simp only [Option.map_some]; rw [h y (by simp [Op.operands])]
     have h3 : hi.map (ρ.ev C) = hi.map (cO.ev C) := by
      cases hi with
      | none => rfl
      | some y => simp only [Option.map_some]; rw [h y (by simp [Op.operands])]
     rw [h1, h2, h3]
 | makeMap t r => cases r <;> rfl
 | next i b => cases b <;> simp_all [fR, Op.operands]
 | _ => simp_all [fR, Op.operands]
def cQ : AV -> List Nat
 | .box b _ => [b]
 | .ms b _ _ _ _ => [b]
 | .mp m => [m]
 | .it o => [o]
 | .vec _ (.own τ) _ => [τ]
 | _ => []
theorem NI {b : Nat} (h : ad.live b = U.live b) : ad.box b = U.box b := by simp only [St.box, h]
theorem Cr {p : AV} (h : ∀ b ∈ cQ p, ad.live b = U.live b) : iz ad p = iz U p := by
 cases p <;> simp only [iz]
 rw [NI (h _ (by simp [cQ]))]
def quiet : Op -> Bool
 | .move _ | .assign _ | .pick .. | .load .. | .build .. | .buildSlice .. | .fieldAddr .. | .field .. | .indexAddr .. | .index .. | .binOp .. | .unOp .. | .convert .. | .nilCheck _ | .lookup .. | .extract .. | .makeInterface .. | .makeFunc ..
 | .slice .. => true
 | .call c => match c.callee with
   | .value _ => true
   | .builtin .len | .builtin .min | .builtin .max => true
   | _ => false
 | _ => false
def ky : Op -> Bool
 | .load .. | .lookup .. => true
 | _ => false
theorem Oj (o : Op) (hq : quiet o = true) (h : ky o = true -> ∀ x ∈ o.operands, ∀ b ∈ cQ (ρ.ev C x), ad.live b = U.live b) : fR C mu o ρ ad = fR C mu o ρ U := by
 cases o with
 | call c =>
   obtain ⟨callee, ⟨args⟩, ⟨No⟩⟩ := c
   simp only [fR, uk]
   cases callee with
   | value f => rfl
   | invoke r m => rfl
   | builtin b =>
     cases b <;> simp only [quiet, bl] at hq
     all_goals (split <;> first
      | rfl
      | (simp only [Br]; done)
      | contradiction
      | simp_all)
 | load t a =>
   simp only [fR, pB]
   rw [Cr (h rfl a (by simp [Op.operands]))]
 | lookup t m k ok =>
   have := h rfl m (by simp [Op.operands])
   simp only [fR, qJ]
   generalize ρ.ev C m = y at this ⊢
   cases y <;> simp_all [cQ, St.mp, jb]
 | slice t x lo hi m => cases m <;> rfl
 | _ => first | rfl | simp [quiet] at hq
theorem aA.wp_mono {K K' : AV -> St -> Prop} {Kp : AV -> St -> Prop} (hk : ∀ v U, K v U -> K' v U) : ∀ (r : aA) {U : St}, r.wp C U K Kp -> r.wp C U K' Kp
 | .val _, _, h => hk _ _ h
 | .ir _ _ _, _, h => hk _ _ h
 | .new _ _ _, _, h => fun b hb => hk _ _ (h b hb)
 | .gT _ _, _, h => fun p hp => hk _ _ (h p hp)
 | .enter _ _, _, h => ae.mono h fun r U hr => by cases r <;> first | exact hk _ _ hr | exact hr
 | .yield _ _, _, h => iy.mono h fun r U hr => by cases r <;> first | exact hk _ _ hr | exact hr
 | .panic _, _, h => h
 | @aA.cond _ _ r, _, h => ⟨h.1, aA.wp_mono hk r h.2⟩
 | .bad, _, h => h
theorem Db {x : Operand} {dst : Option Tmp} {v : AV} (h : ∀ d, dst = some d -> x ≠ .tmp d) : (ρ.dc dst v).ev C x = ρ.ev C x := by
 cases dst with
 | none => rfl
 | some d =>
   cases x <;> simp only [Env.dc, Env.put, Env.ev]
   rename_i t
   rw [if_neg (fun e => h d rfl (by rw [e]))]
theorem DO (ops : Array Oper) (o : Oper) {dst : Option Tmp} {v : AV} (h : ∀ d, dst = some d -> d ∉ o.looksAt ops) : fR C mu o.op (ρ.dc dst v) U = fR C mu o.op ρ U :=
 Hv o.op fun x hx => Db fun d hd QX => h d hd (by
  subst QX
  exact List.mem_append_left _ (List.mem_filterMap.2 ⟨.tmp d, by simpa using hx, rfl⟩))
theorem yR (ops : Array Oper) (o : Oper) {dst : Option Tmp} {v : AV} (h : ∀ d, dst = some d -> d ∉ o.looksAt ops) : eQ ops (ρ.dc dst v) o.guard = eQ ops ρ o.guard := by
 cases dst with
 | none => rfl
 | some d =>
   have hd := h d rfl
   unfold eQ
   cases hg : o.guard with
   | none => rfl
   | some jw =>
     obtain ⟨j, want⟩ := jw
     simp only
     cases hb : (ops[j]?).bind (·.dst) with
     | none => rfl
     | some t =>
       have bX : t ≠ d := fun e => by
        subst e
        apply hd
        unfold Oper.looksAt
        rw [hg]
        simp only [hb, Option.toList_some, fx, kO, or_true]
       simp only [Env.dc, Env.put, if_neg bX]
theorem HA {d d' : Option Tmp} {v v' : AV} (h : ∀ t, d = some t -> d' ≠ some t) : (ρ.dc d v).dc d' v' = (ρ.dc d' v').dc d v := by
 cases d <;> cases d' <;> simp only [Env.dc]
 rename_i a b
 have bX : b ≠ a := fun e => h a rfl (by rw [e])
 simp only [Env.put, Env.mk.injEq]
 funext t
 by_cases h1 : t = b
 · subst h1; rw [if_pos rfl, if_neg bX, if_pos rfl]
 · rw [if_neg h1]
   by_cases h2 : t = a
   · rw [if_pos h2, if_pos h2]
   · rw [if_neg h2, if_neg h2, if_neg h1]
def lF (mu : List Nat) (o : Oper) : Bool := match o.dst with | some d => mu.contains d | none => false
def kB (C : bQ) (mu : List Nat) (ops : Array Oper) (I : St -> Prop) (i : Nat) (K : Env -> St -> Prop) (Kp : AV -> St -> Prop) (ρ : Env) (U : St) : Prop :=
 match ops[i]? with
 | none => K ρ U
 | some o => ay (eQ ops ρ o.guard) ((fR C (lF mu o) o.op ρ U).wp C U (fun v ad => I ad /\ K (ρ.dc o.dst v) ad) Kp) (K (ρ.dc o.dst (.aL [])) U)
def MN (o : Oper) (k : Nat) : Bool := o.after.toList.any fun e => Region.binds .any e && Nat.beq e.on k
def gS (ops : Array Oper) (i : Nat) : Bool := match ops[i]? with
 | some o => (List.range ops.size).all fun k => Nat.beq k i || (MN o k || o.after.toList.any fun e => Region.binds .any e && (match ops[e.on]? with | some m => MN m k | none => false))
 | none => false
def Dn (ops : Array Oper) (listed : Array Bool) : Prop := ∀ m o, ops[m]? = some o -> listed.getD m false = true -> ∀ e ∈ o.after, Region.binds .any e = true -> listed.getD e.on false = true
theorem BF {o : Oper} {k : Nat} (h : MN o k = true) : ∃ e ∈ o.after, Region.binds .any e = true /\ e.on = k := by
 unfold MN at h
 rw [List.any_eq_true] at h
 obtain ⟨e, he, hb⟩ := h
 simp only [bF] at hb
 exact ⟨e, by simpa using he, hb.1, dr hb.2⟩
theorem sQ {ops : Array Oper} {i : Nat} {listed : Array Bool} (hD : Dn ops listed) (hr : i ∈ Region.ready .any ops listed) (h : gS ops i = true) (k : Nat) (hk : k < ops.size) (bX : k ≠ i) : listed.getD k false = true := by
 obtain ⟨_, o, ho, bw⟩ := mem_ready.1 hr
 unfold gS at h
 rw [ho] at h
 simp only [dU, List.mem_range, gM] at h
 rcases h k hk with h | h | h
 · exact absurd (dr h) bX
 · obtain ⟨e, he, hb, wM⟩ := BF h
   rw [<- wM]; exact bw e he hb
 · rw [List.any_eq_true] at h
   obtain ⟨e, he, hb⟩ := h
   rw [bF] at hb
   have h1 := bw e (by simpa using he) hb.1
   have h2 := hb.2
   split at h2
   · rename_i m hm
     obtain ⟨e', iq, dz, Wb⟩ := BF h2
     rw [<- Wb]; exact hD _ m hm h1 e' iq dz
   · cases h2
theorem Dn.set {ops : Array Oper} {listed : Array Bool} (hD : Dn ops listed) {i : Nat} (hr : i ∈ Region.ready .any ops listed) : Dn ops (listed.setIfInBounds i true) := by
 intro m o ho hl e he hb
 obtain ⟨_, oi, Ym, bw⟩ := mem_ready.1 hr
 by_cases UZ : i = m
 · subst UZ
   rw [Ym] at ho; cases ho
   exact getD_set_true (bw e he hb)
 · rw [getD_set_ne false UZ] at hl
   exact getD_set_true (hD m o ho hl e he hb)
theorem Dn.none (ops : Array Oper) (n : Nat) : Dn ops (Array.replicate n false) := by
 intro m o ho hl
 rw [Array.getD_eq_getD_getElem?, Array.getElem?_replicate] at hl
 split at hl <;> simp at hl
def Ix (ops : Array Oper) (I : St -> Prop) (i : Nat) (U : St) : Prop := gS ops i = true \/ I U
def kG (C : bQ) (mu : List Nat) (ops : Array Oper) (I : St -> Prop) (K : Env -> St -> Prop) (Kp : AV -> St -> Prop) : Nat -> Array Bool -> Env -> St -> Prop
 | 0, listed, ρ, U => Region.ready .any ops listed = [] /\ K ρ U
 | n + 1, listed, ρ, U => (Region.ready .any ops listed = [] -> K ρ U) /\ ∀ i ∈ Region.ready .any ops listed, kB C mu ops (Ix ops I i) i (kG C mu ops I K Kp n (listed.setIfInBounds i true)) Kp ρ U
theorem D0 {mu : List Nat} {ops : Array Oper} {I : St -> Prop} (bV : jk nt ops = true) (g0 : Gh) : ∀ (fuel t : Nat) (listed : Array Bool) (g : Gh) (U : St) (w : World) (ρ : Env) (a : Act) (ds : List Deferred), Gh.Le g0 g -> aQ g U w -> eL C g -> eo g ρ a.tmps -> a.tmps.size = nt -> a.defers = ds ->
 kG C mu ops I (KQ Q) (sN Q) fuel listed ρ U -> wpOpsIn (FW fr) 0 C.P ops (mz g0 nt nm ds Q) (Region.linearise.go .any ops fuel t listed []) a w := by
 intro fuel
 induction fuel with
 | zero =>
   intro t listed g U w ρ a ds h0 hs hG hr hn hd h
   simp only [Region.linearise.go, List.reverse_nil, wpOpsIn]
   exact ⟨hn, g, U, ρ, [], by simpa using hd, ib _ _ _, h0, hs, hr, h.2⟩
 | succ fuel ih =>
   intro t listed g U w ρ a ds h0 hs hG hr hn hd h
   obtain ⟨h1, h2⟩ := h
   simp only [Region.linearise.go]
   change wpOpsIn (FW fr) 0 C.P ops (mz g0 nt nm ds Q) (match (Region.ready .any ops listed)[t % (Region.ready .any ops listed).length]? with
    | some i => Region.linearise.go .any ops fuel (t / (Region.ready .any ops listed).length) (listed.setIfInBounds i true) [i]
    | none => [].reverse) a w
   cases hi : (Region.ready .any ops listed)[t % (Region.ready .any ops listed).length]? with
   | none =>
     have yb : Region.ready .any ops listed = [] := by
      cases hr : Region.ready .any ops listed with
      | nil => rfl
      | cons x xs =>
        rw [hr] at hi
        have aH : t % (x :: xs).length < (x :: xs).length := Nat.mod_lt _ (by simp)
        simp at hi
        simp at aH
        omega
     simp only [List.reverse_nil, wpOpsIn]
     exact ⟨hn, g, U, ρ, [], by simpa using hd, ib _ _ _, h0, hs, hr, h1 yb⟩
   | some i =>
     dsimp only
     rw [linearise_go_acc, List.reverse_singleton, List.singleton_append]
     simp only [wpOpsIn]
     have et := h2 i (fw hi)
     unfold kB at et
     cases ho : ops[i]? with
     | none =>
       rw [ho] at et
       exact ih _ _ g U w ρ a ds h0 hs hG hr hn hd et
     | some o =>
       rw [ho] at et
       dsimp only at et ⊢
       have je : o ∈ ops.toList := fw (l := ops.toList) (i := i) (a := o) (by rw [gE]; exact ho)
       have AZ : vJ nt o = true := by
        unfold jk at bV
        rw [dU] at bV
        exact bV o je
       have Kv : ∀ d, o.dst = some d -> d < a.tmps.size := fun d sA => by
        simp only [vJ, sA, bF, dp] at AZ
        rw [hn]; exact AZ.1
       have go : ∀ g' ad w' x v, Gh.Le g g' -> aQ g' ad w' -> ak g' x v -> kG C mu ops I (KQ Q) (sN Q) fuel (listed.setIfInBounds i true) (ρ.dc o.dst x) ad -> wpOpsIn (FW fr) 0 C.P ops (mz g0 nt nm ds Q) (Region.linearise.go .any ops fuel (t / (Region.ready .any ops listed).length) (listed.setIfInBounds i true) []) (a.put o.dst v) w' := fun g' ad w' x v hle c7 hx hk =>
        ih _ _ g' ad w' (ρ.dc o.dst x) (a.put o.dst v) ds (h0.trans hle) c7 (hG.mono hle) ((hr.mono hle).dc Kv hx) (by rw [(j0 a o.dst v).2]; exact hn) (by rw [(j0 a o.dst v).1]; exact hd) hk
       cases GC : eQ ops ρ o.guard <;> rw [GC] at et <;> simp only [ay] at et
       rename_i b
       have hw := uO hr GC
       cases b
       · rw [if_neg (by rw [hw]; simp)]
         exact ⟨fun _ _ => trivial, go g U w (.aL []) undef (Gh.Le.refl g) hs pL (et.2 rfl)⟩
       · rw [if_pos hw]
         refine lH AZ hs hG hr hn (et.1 rfl) (fun g' ad w' x v hle c7 hx hk => go g' ad w' x v hle c7 hx hk.2) ?_ (ds := ds)
         intro g' ad w' x v hle c7 hx hk
         exact ⟨hn, g', ad, ρ, [], by simpa using hd, ib _ _ _, h0.trans hle, c7, hr.mono hle, x, v, rfl, hx, hk ρ⟩
theorem aY.zq {id : Nat} {ops : Array Oper} (mu : List Nat) (I : St -> Prop) (hm : C.P.follows .mixedOrders = true) (bV : jk nt ops = true) (h : kG C mu ops I (KQ Q) (sN Q) ops.size (Array.replicate ops.size false) ρ U) : aY C nt ro (.region id ops true) Q ρ U := by
 intro g w a fr h1 h2 h3 h4 pn
 refine wpIn_region_draw fun t => ?_
 simp only [Region.schedule, hm, Bool.true_or, if_true, Region.linearise]
 have hs := h1.grow (gy w)
 exact D0 bV g ops.size t _ g U _ ρ a a.defers (Gh.Le.refl g) hs h2 h3 h4 rfl h
def aA.yv (C : bQ) : aA -> AV -> Prop
 | .val u, v => u = v
 | @aA.cond p _ r, v => p /\ r.yv C v
 | .enter f args, v => Pure C f args v
 | _, _ => False
theorem aA.FR {K : AV -> St -> Prop} {Kp : AV -> St -> Prop} : ∀ (r : aA) {v : AV}, r.yv C v -> K v U -> r.wp C U K Kp
 | .val _, _, h, hk => by simp only [aA.yv] at h; subst h; exact hk
 | @aA.cond _ _ r, _, h, hk => ⟨h.1, aA.FR r h.2 hk⟩
 | .enter _ _, _, h, hk => h U _ hk
 | .ir _ _ _, _, h, _ => h.elim
 | .new _ _ _, _, h, _ => h.elim
 | .gT _ _, _, h, _ => h.elim
 | .yield _ _, _, h, _ => h.elim
 | .panic _, _, h, _ => h.elim
 | .bad, _, h, _ => h.elim
def cn (B : List Nat) (az U : St) : Prop := ∀ b ∈ B, U.live b = az.live b
def Still (C : bQ) (mu : List Nat) (ops : Array Oper) (B : List Nat) (az : St) (o : Oper) (ρ : Env) (v : AV) : Prop :=
 (eQ ops ρ o.guard = .bool true /\ quiet o.op = true /\ (ky o.op = true -> ∀ x ∈ o.op.operands.toList, ∀ b ∈ cQ (ρ.ev C x), b ∈ B) /\ (fR C (lF mu o) o.op ρ az).yv C v) \/ (eQ ops ρ o.guard = .bool false /\ v = .aL [])
theorem Still.put {mu : List Nat} {ops : Array Oper} {B : List Nat} {az : St} {o : Oper} {v : AV} (h : Still C mu ops B az o ρ v) {dst : Option Tmp} {u : AV} (hd : ∀ d, dst = some d -> d ∉ o.looksAt ops) : Still C mu ops B az o (ρ.dc dst u) v := by
 unfold Still at h ⊢
 rw [yR ops o hd, DO ops o hd]
 rcases h with ⟨h1, h2, h3, h4⟩ | h
 · refine .inl ⟨h1, h2, fun A9 x hx b hb => h3 A9 x hx b ?_, h4⟩
   rw [Db fun d sA QX => hd d sA (by
    subst QX
    exact List.mem_append_left _ (List.mem_filterMap.2 ⟨.tmp d, hx, rfl⟩))] at hb
   exact hb
 · exact .inr h
theorem Still.step {mu : List Nat} {ops : Array Oper} {B : List Nat} {az : St} {o : Oper} {v : AV} {i : Nat} {K : Env -> St -> Prop} {Kp : AV -> St -> Prop} (hi : ops[i]? = some o) (h : Still C mu ops B az o ρ v) (hI : cn B az U) {I' : St -> Prop} (wD : I' U) (hk : K (ρ.dc o.dst v) U) :
 kB C mu ops I' i K Kp ρ U := by
 unfold kB
 rw [hi]
 dsimp only
 rcases h with ⟨h1, h2, h3, h4⟩ | ⟨h1, rfl⟩
 · rw [h1]
   refine ⟨fun _ => ?_, fun h => by cases h⟩
   have e := Oj (C := C) (ρ := ρ) (mu := lF mu o) (ad := U) (U := az) o.op h2 (fun A9 x hx b hb => hI b (h3 A9 x (by simpa using hx) b hb))
   rw [e]
   exact aA.FR _ h4 ⟨wD, hk⟩
 · rw [h1]
   exact ⟨fun h => (by cases h), fun _ => hk⟩
theorem xo {mu : List Nat} {ops : Array Oper} {I : St -> Prop} {i : Nat} {K K' : Env -> St -> Prop} {Kp : AV -> St -> Prop} (hI : I U) (hk : ∀ ρ U, I U -> K ρ U -> K' ρ U) (h : kB C mu ops I i K Kp ρ U) : kB C mu ops I i K' Kp ρ U := by
 unfold kB at h ⊢
 split
 · rename_i ho; rw [ho] at h; exact hk _ _ hI h
 · rename_i o ho
   rw [ho] at h
   dsimp only at h
   cases hg : eQ ops ρ o.guard <;> rw [hg] at h <;> simp only [ay] at h ⊢
   exact ⟨fun e => aA.wp_mono (fun v U hv => ⟨hv.1, hk _ _ hv.1 hv.2⟩) _ (h.1 e), fun e => hk _ _ hI (h.2 e)⟩
theorem we {mu : List Nat} {ops : Array Oper} {B : List Nat} {az : St} {K : Env -> St -> Prop} {Kp : AV -> St -> Prop} {i : Nat} {oi : Oper} {v : AV} (hi : ops[i]? = some oi) :
 ∀ (fuel : Nat) (listed : Array Bool) (ρ : Env) (U : St),
  (∀ j oj, ops[j]? = some oj -> j ≠ i -> listed.getD j true = false -> (∀ e ∈ oj.after, Region.binds .any e = true -> e.on ≠ i) -> oi.apart ops oj = true) ->
  i ∈ Region.ready .any ops listed -> Dn ops listed -> Still C mu ops B az oi ρ v -> cn B az U ->
  kG C mu ops (cn B az) K Kp fuel (listed.setIfInBounds i true) (ρ.dc oi.dst v) U -> kG C mu ops (cn B az) K Kp (fuel + 1) listed ρ U := by
 intro fuel
 induction fuel with
 | zero =>
   intro listed ρ U _ hr hD hy hI H
   refine ⟨fun h => (by rw [h] at hr; cases hr), fun j hj => ?_⟩
   by_cases qz : j = i
   · subst qz; exact hy.step hi hI (.inr hI) H
   · have := ready_mono hj qz
     rw [H.1] at this
     cases this
 | succ fuel ih =>
   intro listed ρ U zR hr hD hy hI H
   refine ⟨fun h => (by rw [h] at hr; cases hr), fun j hj => ?_⟩
   by_cases qz : j = i
   · subst qz; exact hy.step hi hI (.inr hI) H
   · have h1 := H.2 j (ready_mono hj qz)
     obtain ⟨Qz, oj, lR, bw⟩ := mem_ready.1 hj
     have KB : ∀ e ∈ oj.after, Region.binds .any e = true -> e.on ≠ i := fun e he hb heq => by
      have h1 := bw e he hb
      have h0 := (mem_ready.1 hr).1
      rw [heq] at h1
      rcases ga i listed.size with h' | h'
      · simp [h'] at h0 h1; rw [h0] at h1; cases h1
      · simp [rX h'] at h1
     obtain ⟨a1, a2, a3⟩ := Oper.apart_spec (zR j oj lR qz Qz KB)
     have Qt : ∀ k ok, ops[k]? = some ok -> k ≠ i -> (listed.setIfInBounds j true).getD k true = false ->
      (∀ e ∈ ok.after, Region.binds .any e = true -> e.on ≠ i) -> oi.apart ops ok = true := fun k ok hk AR Va fB => by
      refine zR k ok hk AR ?_ fB
      by_cases UN : j = k
      · subst UN; exact Qz
      · rw [getD_set_ne true UN] at Va; exact Va
     have GL : ¬ gS ops j = true := fun Tr => by
      have h1 := sQ hD hj Tr i (gD.1 hi).1 (Ne.symm qz)
      have h0 := (mem_ready.1 hr).1
      rcases ga i listed.size with h' | h'
      · simp [h'] at h0 h1; rw [h0] at h1; cases h1
      · simp [rX h'] at h1
     have next : ∀ (u : AV) (ad : St), cn B az ad -> kG C mu ops (cn B az) K Kp fuel ((listed.setIfInBounds i true).setIfInBounds j true) ((ρ.dc oi.dst v).dc oj.dst u) ad ->
      kG C mu ops (cn B az) K Kp (fuel + 1) (listed.setIfInBounds j true) (ρ.dc oj.dst u) ad := fun u ad wD hA => by
      refine ih (listed.setIfInBounds j true) (ρ.dc oj.dst u) ad Qt (ready_mono hr (Ne.symm qz)) (hD.set hj) (hy.put a3) wD ?_
      rw [Array.setIfInBounds_comm _ _ qz, <- HA (d := oi.dst) (d' := oj.dst) (fun t ht => a2 t ht)]
      exact hA
     unfold kB at h1 ⊢
     rw [lR] at h1 ⊢
     dsimp only at h1 ⊢
     rw [yR ops oj a1, DO ops oj a1] at h1
     cases hg : eQ ops ρ oj.guard <;> rw [hg] at h1 <;> simp only [ay] at h1 ⊢
     exact ⟨fun e => aA.wp_mono (fun u ad hu => ⟨hu.1, next u ad (hu.1.resolve_left GL) hu.2⟩) _ (h1.1 e), fun e => next _ U hI (h1.2 e)⟩
def fS (ops : Array Oper) : List (Bool × Nat) -> Array Bool -> Bool
 | [], listed => (Region.ready .any ops listed).isEmpty
 | (true, i) :: r, listed => (Region.ready .any ops listed).contains i && Region.free .any ops listed i && fS ops r (listed.setIfInBounds i true)
 | (false, i) :: r, listed => (Region.ready .any ops listed == [i]) && fS ops r (listed.setIfInBounds i true)
def jl (C : bQ) (mu : List Nat) (ops : Array Oper) (B : List Nat) (az : St) (K : Env -> St -> Prop) (Kp : AV -> St -> Prop) : List (Bool × Nat) -> Env -> St -> Prop
 | [], ρ, U => K ρ U
 | (true, i) :: r, ρ, U => ∃ o v, ops[i]? = some o /\ Still C mu ops B az o ρ v /\ jl C mu ops B az K Kp r (ρ.dc o.dst v) U
 | (false, i) :: r, ρ, U => kB C mu ops (Ix ops (cn B az) i) i (jl C mu ops B az K Kp r) Kp ρ U
theorem K6 {ops : Array Oper} {i : Nat} {listed : Array Bool} (hD : Dn ops listed) (hi : i ∈ Region.ready .any ops listed) (ha : gS ops i = true) : ∀ {r : List (Bool × Nat)}, fS ops r (listed.setIfInBounds i true) = true -> r = []
 | [], _ => rfl
 | (b, k) :: r, h => by
   exfalso
   have hk : k ∈ Region.ready .any ops (listed.setIfInBounds i true) := by
    cases b with
    | true => simp only [fS, bF] at h; simpa using h.1.1
    | false => simp only [fS, bF, beq_iff_eq] at h; rw [h.1]; simp
   obtain ⟨h0, ok, bV, _⟩ := mem_ready.1 hk
   have AO := (mem_ready.1 hi).1
   have bX : k ≠ i := fun e => by
    subst e
    have aH : k < listed.size := by
     rcases ga k listed.size with h | h
     · exact h
     · simp [rX h] at AO
    simp [aH] at h0
   have h1 := sQ hD hi ha k (gD.1 bV).1 bX
   rw [getD_set_ne true (Ne.symm bX)] at h0
   rcases ga k listed.size with h' | h'
   · simp [h'] at h0 h1; rw [h0] at h1; cases h1
   · simp [rX h'] at h1
theorem pH {mu : List Nat} {ops : Array Oper} {B : List Nat} {az : St} {K : Env -> St -> Prop} {Kp : AV -> St -> Prop} : ∀ (ct : List (Bool × Nat)) (listed : Array Bool) (ρ : Env) (U : St), fS ops ct listed = true -> Dn ops listed -> (ct = [] \/ cn B az U) -> jl C mu ops B az K Kp ct ρ U ->
 kG C mu ops (cn B az) K Kp ct.length listed ρ U
 | [], listed, ρ, U, hp, hD, hI, h => ⟨by simpa [fS] using hp, h⟩
 | (true, i) :: r, listed, ρ, U, hp, hD, hI, h => by
   have hI := hI.resolve_left (by simp)
   simp only [fS, bF] at hp
   obtain ⟨o, v, ho, et, hr⟩ := h
   exact we ho r.length listed ρ U (Region.free_spec ho hp.1.2) (by simpa using hp.1.1) hD et hI (pH r _ _ U hp.2 (hD.set (by simpa using hp.1.1)) (.inr hI) hr)
 | (false, i) :: r, listed, ρ, U, hp, hD, hI, h => by
   have hS := hI.resolve_left (by simp)
   simp only [fS, bF, beq_iff_eq] at hp
   refine ⟨fun h0 => (by rw [hp.1] at h0; cases h0), fun j hj => ?_⟩
   have yT := hj
   rw [hp.1, kO] at hj
   subst hj
   exact xo (.inr hS) (fun cO ad wD hr => pH r _ cO ad hp.2 (hD.set yT) (wD.elim (fun ha => .inl (K6 hD yT ha hp.2)) .inr) hr) h
theorem aY.r9 {id : Nat} {ops : Array Oper} (mu : List Nat) (B : List Nat) (ct : List (Bool × Nat)) (hm : C.P.follows .mixedOrders = true) (bV : jk nt ops = true) (hp : (fS ops ct (Array.replicate ops.size false) && (ct.length == ops.size)) = true)
 (h : jl C mu ops B U (KQ Q) (sN Q) ct ρ U) : aY C nt ro (.region id ops true) Q ρ U := by
 simp only [bF, beq_iff_eq] at hp
 refine aY.zq mu (cn B U) hm bV ?_
 have := pH ct _ ρ U hp.1 (Dn.none _ _) (.inr fun _ _ => rfl) h
 rw [hp.2] at this
 exact this
theorem aA.Ci {K : AV -> St -> Prop} {Kp wc : AV -> St -> Prop} (hp : ∀ v U, Kp v U -> wc v U) : ∀ (r : aA) {U : St}, r.wp C U K Kp -> r.wp C U K wc
 | .val _, _, h => h
 | .ir _ _ _, _, h => h
 | .new _ _ _, _, h => h
 | .gT _ _, _, h => h
 | .enter _ _, _, h => ae.mono h fun r U hr => by cases r <;> first | exact hr | exact hp _ _ hr
 | .yield _ _, _, h => iy.mono h fun r U hr => by cases r <;> first | exact hr | exact hp _ _ hr
 | .panic _, _, h => hp _ _ h
 | @aA.cond _ _ r, _, h => ⟨h.1, aA.Ci hp r h.2⟩
 | .bad, _, h => h
theorem gm {mu : List Nat} {ops : Array Oper} {B : List Nat} {az : St} {K K' : Env -> St -> Prop} {Kp wc : AV -> St -> Prop} (hk : ∀ ρ U, K ρ U -> K' ρ U) (hp : ∀ v U, Kp v U -> wc v U) : ∀ (l : List (Bool × Nat)) {ρ : Env} {U : St}, jl C mu ops B az K Kp l ρ U -> jl C mu ops B az K' wc l ρ U
 | [], _, _, h => hk _ _ h
 | (true, i) :: r, ρ, U, h => by
   obtain ⟨o, v, h1, h2, h3⟩ := h
   exact ⟨o, v, h1, h2, gm hk hp r h3⟩
 | (false, i) :: r, ρ, U, h => by
   simp only [jl, kB] at h ⊢
   split
   · rename_i ho; rw [ho] at h; exact gm hk hp r h
   · rename_i o ho
     rw [ho] at h
     dsimp only at h
     cases hg : eQ ops ρ o.guard <;> rw [hg] at h <;> simp only [ay] at h ⊢
     exact ⟨fun e => aA.wp_mono (fun v U hv => ⟨hv.1, gm hk hp r hv.2⟩) _ (aA.Ci hp _ (h.1 e)), fun e => gm hk hp r (h.2 e)⟩
end
end Go.Rip
namespace Go.Rip
open Go.RowKit
def mj (kk : IntKind) (a : Int) (v : AV) (kv : List AV × List AV) : List AV × List AV := ep (.int kk a) v kv.1 kv.2
theorem pv (kk : IntKind) (a b : Int) : fN (.int kk a) (.int kk b) = decide (a < b) := by simp [fN]
def sM (kk : IntKind) (kv : List AV × List AV) : Prop := kv.1.length = kv.2.length /\ ∀ y ∈ kv.1, ∃ n, y = .int kk n
theorem Bj (k v : AV) : ∀ ks vs : List AV, ks.length = vs.length -> (ep k v ks vs).1.length = (ep k v ks vs).2.length
 | [], [], _ => rfl
 | y :: ys, w :: ws, h => by
   simp only [ep]
   split
   · simpa using h
   · simpa using Bj k v ys ws (by simpa using h)
 | [], _ :: _, h => by simp at h
 | _ :: _, [], h => by simp at h
theorem DA {kk : IntKind} {a : Int} {v : AV} {kv : List AV × List AV} (h : sM kk kv) : sM kk (mj kk a v kv) :=
 ⟨Bj _ _ _ _ h.1, fun y hy => by
   rcases rC _ _ y hy with rfl | hy
   · exact ⟨a, rfl⟩
   · exact h.2 y hy⟩
theorem zb {kk : IntKind} {a b : Int} {v w : AV} (Di : a ≠ b) : ∀ ks vs : List AV, ks.length = vs.length -> (∀ y ∈ ks, ∃ n, y = .int kk n) ->
 ep (.int kk a) v (ep (.int kk b) w ks vs).1 (ep (.int kk b) w ks vs).2 = ep (.int kk b) w (ep (.int kk a) v ks vs).1 (ep (.int kk a) v ks vs).2
 | [], [], _, _ => by
   simp only [ep, pv]
   by_cases h : a < b
   · have : ¬ b < a := by omega
     simp [h, this]
   · have : b < a := by omega
     simp [h, this]
 | y :: ys, x :: xs, h, hy => by
   obtain ⟨n, rfl⟩ := hy _ (List.mem_cons_self ..)
   have ih := zb (v := v) (w := w) Di ys xs (by simpa using h) (fun y hm => hy y (by simp [hm]))
   simp only [ep, pv]
   by_cases h1 : a < n <;> by_cases h2 : b < n <;> by_cases h3 : a < b
   all_goals (have h4 : b < a \/ ¬ b < a := by omega)
   all_goals (rcases h4 with h4 | h4 <;> simp only [h1, h2, h3, h4, cV, db, if_true, if_false, bl, ep, pv] <;> first | omega | (simp only [ih]; done) | rfl | (simp [ep, pv, h1, h2, h3, h4, ih]; done))
 | [], _ :: _, h, _ => by simp at h
 | _ :: _, [], h, _ => by simp at h
theorem GW {kk : IntKind} {a b : Int} {v w : AV} (Di : a ≠ b) {kv : List AV × List AV} (h : sM kk kv) : mj kk a v (mj kk b w kv) = mj kk b w (mj kk a v kv) := zb Di kv.1 kv.2 h.1 h.2
structure pP where
 i : Nat
 key : Int
 val : AV
def k9 (kk : IntKind) (l : List pP) (kv : List AV × List AV) : List AV × List AV := l.foldl (fun kv x => mj kk x.key x.val kv) kv
theorem tw {kk : IntKind} : ∀ (mR : List pP) (x : pP) (mS : List pP) {kv : List AV × List AV}, sM kk kv -> (∀ y ∈ mR, y.key ≠ x.key) -> k9 kk (mR ++ x :: mS) kv = k9 kk (mR ++ mS) (mj kk x.key x.val kv)
 | [], x, mS, _, _, _ => rfl
 | y :: mR, x, mS, kv, h, hk => by
   show k9 kk (mR ++ x :: mS) (mj kk y.key y.val kv) = k9 kk (mR ++ mS) (mj kk y.key y.val (mj kk x.key x.val kv))
   rw [tw mR x mS (DA h) (fun z hz => hk z (by simp [hz])), GW (hk y (by simp)).symm h]
theorem AB {kk : IntKind} {a : Int} : ∀ (ks : List AV) (i : Nat), (∀ y ∈ ks, ∃ n, y = .int kk n /\ n ≠ a) -> iv .i (.int kk a) ks i = some none
 | [], _, _ => rfl
 | y :: ys, i, h => by
   obtain ⟨n, rfl, hn⟩ := h _ (List.mem_cons_self ..)
   have bX : (a == n) = false := by simpa using Ne.symm hn
   simp only [iv, eD, if_true, bX, bl, if_false]
   exact AB ys (i + 1) fun y hy => h y (by simp [hy])
theorem set_set (U : St) (b : Nat) (x y : Live) : (U.set b x).set b y = U.set b y := by
 simp only [St.set, St.mk.injEq, and_true]; funext q; split <;> rfl
theorem Q8 (U : St) (b : Nat) (ks vs : List AV) : (U.set b (.mp ks vs)).mp b = some (ks, vs) := by simp [St.mp, St.set]
section
variable {C : bQ} {mu : List Nat} {ops : Array Oper} {B : List Nat} {az : St} {K : Env -> St -> Prop} {Kp : AV -> St -> Prop}
def SI (C : bQ) (ops : Array Oper) (ρ : Env) (t : TypeId) (m : Nat) (kk : IntKind) (listed : Array Bool) (x : pP) : Prop := ∃ o v, ops[x.i]? = some o /\ o.op = .insert t (.tmp m) (.const (.int kk x.key)) v /\ o.dst = none /\ o.guard = none /\ ρ.ev C v = x.val /\
 ∀ e ∈ o.after, Region.binds .any e = true -> listed.getD e.on false = true
def OI (ops : Array Oper) (listed : Array Bool) (l : List pP) : Prop := ∀ j o, ops[j]? = some o -> listed.getD j true = false -> (∃ x ∈ l, x.i = j) \/ ∀ x ∈ l, ∃ e ∈ o.after, Region.binds .any e = true /\ e.on = x.i
theorem NR {t : TypeId} {m : Nat} {kk : IntKind} {e : TypeId} (ht : mx C.P t = some (.i, e)) {id : Nat} {ρ : Env} (hm : ρ.get m = .mp id) (hB : id ∉ B) (mm : Nat) : ∀ (n : Nat) (l : List pP) (listed : Array Bool) (U : St) (kv : List AV × List AV), l.length = n ->
 (∀ x ∈ l, listed.getD x.i true = false) -> OI ops listed l -> l.Pairwise (fun x y => x.i ≠ y.i /\ x.key ≠ y.key) -> (∀ x ∈ l, SI C ops ρ t m kk listed x) -> cn B az U -> sM kk kv ->
 (∀ x ∈ l, .int kk x.key ∉ kv.1) -> (∀ iJ : Array Bool, iJ.size = listed.size -> (∀ j, iJ.getD j true = false ↔ listed.getD j true = false /\ ¬ ∃ x ∈ l, x.i = j) -> kG C mu ops (cn B az) K Kp mm iJ ρ (U.set id (.mp (k9 kk l kv).1 (k9 kk l kv).2))) ->
 kG C mu ops (cn B az) K Kp (n + mm) listed ρ (U.set id (.mp kv.1 kv.2)) := by
 intro n
 induction n with
 | zero =>
   intro l listed U kv hl wJ qx hp bV hI Mo fB hK
   obtain rfl : l = [] := List.eq_nil_of_length_eq_zero hl
   rw [ck]
   exact hK listed rfl fun j => by simp
 | succ n ih =>
   intro l listed U kv hl wJ qx hp bV hI Mo fB hK
   have A8 : ∀ x ∈ l, x.i ∈ Region.ready .any ops listed := fun x hx => by
    obtain ⟨o, v, h1, _, _, _, _, h6⟩ := bV x hx
    exact mem_ready.2 ⟨wJ x hx, o, h1, h6⟩
   rw [show n + 1 + mm = (n + mm) + 1 by omega]
   refine ⟨fun h => ?_, fun j hj => ?_⟩
   · obtain ⟨x, l', rfl⟩ : ∃ x l', l = x :: l' := by cases l with | nil => simp at hl | cons x l' => exact ⟨x, l', rfl⟩
     have := A8 x (by simp)
     rw [h] at this; cases this
   · obtain ⟨x, hx, rfl⟩ : ∃ x ∈ l, x.i = j := by
      obtain ⟨h0, oj, lR, bw⟩ := mem_ready.1 hj
      rcases qx j oj lR h0 with h | h
      · exact h
      · exfalso
        obtain ⟨x, l', rfl⟩ : ∃ x l', l = x :: l' := by cases l with | nil => simp at hl | cons x l' => exact ⟨x, l', rfl⟩
        obtain ⟨ed, he, hb, wM⟩ := h x (by simp)
        have k1 := bw ed he hb
        rw [wM] at k1
        have k2 := wJ x (by simp)
        rcases ga x.i listed.size with h' | h'
        · simp [h'] at k1 k2; rw [k2] at k1; cases k1
        · simp [rX h'] at k1
     obtain ⟨o, v, h1, h2, h3, h4, h5, h6⟩ := bV x hx
     obtain ⟨mR, mS, rfl⟩ := List.append_of_mem hx
     have ZM := hp
     rw [List.pairwise_append] at hp
     obtain ⟨p1, p2, p3⟩ := hp
     rw [List.pairwise_cons] at p2
     have Ey : iv .i (.int kk x.key) kv.1 0 = some none := AB _ _ fun y hy => by
      obtain ⟨n, rfl⟩ := Mo.2 y hy
      exact ⟨n, rfl, fun e => fB x hx (by rw [<- e]; exact hy)⟩
     unfold kB
     rw [h1]
     dsimp only
     rw [h4, h2, h3]
     refine ⟨fun _ => ?_, fun h => by cases h⟩
     have hop : fR C (lF mu o) (.insert t (.tmp m) (.const (.int kk x.key)) v) ρ (U.set id (.mp kv.1 kv.2)) = .ir (.aL []) id (.mp (mj kk x.key x.val kv).1 (mj kk x.key x.val kv).2) := by
      show my C.P t (ρ.ev C (.tmp m)) (ρ.ev C (.const (.int kk x.key))) (ρ.ev C v) _ = _
      rw [h5, show ρ.ev C (.tmp m) = .mp id from hm, show ρ.ev C (.const (.int kk x.key)) = .int kk x.key from rfl]
      simp only [my, ht, Q8, Ey, mq, mj]
     rw [hop]
     refine ⟨.inr fun b hb => ?_, ?_⟩
     · have bX : b ≠ id := fun e => hB (e ▸ hb)
       rw [set_set]
       simp only [St.set, if_neg bX]
       exact hI b hb
     · show kG C mu ops (cn B az) K Kp (n + mm) (listed.setIfInBounds x.i true) ρ _
       rw [set_set]
       have aH : x.i < listed.size := by
        have h0 := wJ x hx
        rcases ga x.i listed.size with h | h
        · exact h
        · simp [rX h] at h0
       have MC : (listed.setIfInBounds x.i true).getD x.i true = true := by simp [aH]
       have yd : ∀ y ∈ mR ++ mS, y ∈ mR ++ x :: mS := fun y hy => by
        simp only [fx, dD] at hy ⊢
        rcases hy with hy | hy
        · exact .inl hy
        · exact .inr (.inr hy)
       have bX : ∀ y ∈ mR ++ mS, x.i ≠ y.i := fun y hy => by
        rcases fx.1 hy with hy | hy
        · exact (p3 y hy x (by simp)).1.symm
        · exact (p2.1 y hy).1
       refine ih (mR ++ mS) (listed.setIfInBounds x.i true) U (mj kk x.key x.val kv) ?_ ?_ ?_ ?_ ?_ hI (DA Mo) ?_ ?_
       · simp at hl ⊢; omega
       · intro y hy
         rw [getD_set_ne true (bX y hy)]
         exact wJ y (yd y hy)
       · intro j oj lR h0
         have UO : x.i ≠ j := fun e => by subst e; rw [MC] at h0; cases h0
         rw [getD_set_ne true UO] at h0
         rcases qx j oj lR h0 with ⟨y, hy, rfl⟩ | h
         · left
           refine ⟨y, ?_, rfl⟩
           simp only [fx, dD] at hy ⊢
           rcases hy with hy | rfl | hy
           · exact .inl hy
           · exact absurd rfl UO
           · exact .inr hy
         · right
           exact fun y hy => h y (yd y hy)
       · rw [List.pairwise_append]
         exact ⟨p1, p2.2, fun y hy z hz => p3 y hy z (by simp [hz])⟩
       · intro y hy
         obtain ⟨o', v', q1, q2, q3, q4, q5, q6⟩ := bV y (by simp only [fx, dD] at hy ⊢; rcases hy with hy | hy; exact .inl hy; exact .inr (.inr hy))
         exact ⟨o', v', q1, q2, q3, q4, q5, fun ed he hb => getD_set_true (q6 ed he hb)⟩
       · intro y hy je
         rcases rC _ _ _ je with e | e
         · simp only [AV.int.injEq, true_and] at e
           rcases fx.1 hy with hy | hy
           · exact (p3 y hy x (by simp)).2 e
           · exact (p2.1 y hy).2 e.symm
         · exact fB y (by simp only [fx, dD] at hy ⊢; rcases hy with hy | hy; exact .inl hy; exact .inr (.inr hy)) e
       · rw [<- tw mR x mS Mo (fun y hy => (p3 y hy x (by simp)).2)]
         intro iJ c7 yU
         refine hK iJ (by rw [c7]; simp) fun j => ?_
         rw [yU j]
         by_cases e : x.i = j
         · subst e
           rw [MC]
           constructor
           · rintro ⟨h, _⟩; cases h
           · rintro ⟨_, h⟩; exact absurd ⟨x, by simp, rfl⟩ h
         · rw [getD_set_ne true e]
           refine and_congr_right fun _ => not_congr ?_
           constructor
           · rintro ⟨y, hy, rfl⟩; exact ⟨y, yd y hy, rfl⟩
           · rintro ⟨y, hy, rfl⟩
             refine ⟨y, ?_, rfl⟩
             simp only [fx, dD] at hy ⊢
             rcases hy with hy | rfl | hy
             · exact .inl hy
             · exact absurd rfl e
             · exact .inr hy
def lh (ops : Array Oper) : List (Bool × Nat) -> Array Bool -> Option (Array Bool)
 | [], listed => some listed
 | (true, i) :: r, listed => cond ((Region.ready .any ops listed).contains i && Region.free .any ops listed i) (lh ops r (listed.setIfInBounds i true)) none
 | (false, i) :: r, listed => cond (Region.ready .any ops listed == [i] && !gS ops i) (lh ops r (listed.setIfInBounds i true)) none
theorem vK {m : Nat} {J7 : Array Bool} {K0 : Env -> St -> Prop} (AM : ∀ ρ U, Dn ops J7 -> cn B az U -> K0 ρ U -> kG C mu ops (cn B az) K Kp m J7 ρ U) : ∀ (ct : List (Bool × Nat)) (listed : Array Bool) (ρ : Env) (U : St), lh ops ct listed = some J7 -> Dn ops listed -> cn B az U -> jl C mu ops B az K0 Kp ct ρ U ->
 kG C mu ops (cn B az) K Kp (ct.length + m) listed ρ U
 | [], listed, ρ, U, hp, hD, hI, h => by
   simp only [lh, fy] at hp
   subst hp
   simpa using AM ρ U hD hI h
 | (true, i) :: r, listed, ρ, U, hp, hD, hI, h => by
   simp only [lh] at hp
   cases hc : ((Region.ready .any ops listed).contains i && Region.free .any ops listed i) with
   | false => rw [hc] at hp; cases hp
   | true =>
     rw [hc] at hp
     simp only [bF] at hc
     obtain ⟨o, v, ho, et, hr⟩ := h
     have := we ho (r.length + m) listed ρ U (Region.free_spec ho hc.2) (by simpa using hc.1) hD et hI (vK AM r _ _ U hp (hD.set (by simpa using hc.1)) hI hr)
     rw [show ((true, i) :: r).length + m = r.length + m + 1 by simp; omega]
     exact this
 | (false, i) :: r, listed, ρ, U, hp, hD, hI, h => by
   simp only [lh] at hp
   cases hc : (Region.ready .any ops listed == [i] && !gS ops i) with
   | false => rw [hc] at hp; cases hp
   | true =>
     rw [hc] at hp
     simp only [bF, beq_iff_eq, Bool.not_eq_true'] at hc
     obtain ⟨hc, GL⟩ := hc
     rw [show ((false, i) :: r).length + m = r.length + m + 1 by simp; omega]
     refine ⟨fun h0 => (by rw [hc] at h0; cases h0), fun j hj => ?_⟩
     have yT := hj
     rw [hc, kO] at hj
     subst hj
     exact xo (.inr hI) (fun cO ad wD hr => vK AM r _ cO ad hp (hD.set yT) (wD.resolve_left (by rw [GL]; simp)) hr) h
structure jD where
 t : TypeId
 m : Nat
 kk : IntKind
 l : List Nat
def EH (I : jD) (o : Oper) : Option (Int × Operand) := match o.op, o.dst, o.guard with
 | .insert t (.tmp m) (.const (.int kk a)) v, none, none => cond (Nat.beq t I.t && (Nat.beq m I.m && decide (kk = I.kk))) (some (a, v)) none
 | _, _, _ => none
def iH (ops : Array Oper) (I : jD) (i : Nat) : Option (Int × Operand) := (ops[i]?).bind (EH I)
def zM (listed : Array Bool) (o : Oper) : Bool := o.after.toList.all fun e => !Region.binds .any e || listed.getD e.on false
def xP (ops : Array Oper) (I : jD) (listed : Array Bool) : Bool := (List.range ops.size).all fun j => listed.getD j true || (I.l.contains j || (match ops[j]? with
 | some o => I.l.all fun i => o.after.toList.any fun e => Region.binds .any e && Nat.beq e.on i
 | none => true))
def lS (ops : Array Oper) (I : jD) (listed : Array Bool) : Bool :=
 xP ops I listed && (I.l.all (fun i => !listed.getD i true) && (Nat.beq listed.size ops.size && (I.l.all (fun i => Nat.blt i ops.size && ((iH ops I i).isSome && (match ops[i]? with | some o => zM listed o | none => false)))
  && (decide I.l.Nodup && decide (I.l.map fun i => ((iH ops I i).map (·.1)).getD 0).Nodup))))
def dZ (listed : Array Bool) (l : List Nat) : Array Bool := l.foldl (fun a i => a.setIfInBounds i true) listed
theorem p8 : ∀ (l : List Nat) (a : Array Bool), (dZ a l).size = a.size
 | [], _ => rfl
 | i :: l, a => by
   show (dZ (a.setIfInBounds i true) l).size = _
   rw [p8 l]; simp
theorem sb : ∀ (l : List Nat) (a : Array Bool) (j : Nat), (dZ a l).getD j true = false ↔ a.getD j true = false /\ j ∉ l
 | [], _, _ => by simp [dZ]
 | i :: l, a, j => by
   show (dZ (a.setIfInBounds i true) l).getD j true = false ↔ _
   rw [sb l]
   by_cases e : i = j
   · subst e
     have : (a.setIfInBounds i true).getD i true = true := by
      by_cases h : i < a.size
      · simp [h]
      · simp [rX (Nat.le_of_not_lt h)]
     rw [this]; simp
   · rw [getD_set_ne true e]; simp [Ne.symm e]
def jB (C : bQ) (ops : Array Oper) (ρ : Env) (I : jD) : List pP := I.l.filterMap fun i => (iH ops I i).map fun p => ⟨i, p.1, ρ.ev C p.2⟩
def EG (C : bQ) (ops : Array Oper) (B : List Nat) (I : jD) (K : Env -> St -> Prop) (ρ : Env) (U : St) : Prop :=
 ∃ id, ρ.get I.m = .mp id /\ U.mp id = some ([], []) /\ id ∉ B /\ K ρ (U.set id (.mp (k9 I.kk (jB C ops ρ I) ([], [])).1 (k9 I.kk (jB C ops ρ I) ([], [])).2))
theorem EI {I : jD} {o : Oper} {a : Int} {v : Operand} (h : EH I o = some (a, v)) : o.op = .insert I.t (.tmp I.m) (.const (.int I.kk a)) v /\ o.dst = none /\ o.guard = none := by
 unfold EH at h
 split at h
 · rename_i t m kk a' v' h1 h2 h3
   cases hc : (Nat.beq t I.t && (Nat.beq m I.m && decide (kk = I.kk))) with
   | false => rw [hc] at h; cases h
   | true =>
     rw [hc] at h
     simp only [bF, dp] at hc
     obtain ⟨e1, e2, e3⟩ := hc
     have e1 := dr e1
     have e2 := dr e2
     simp only [cond_true, fy, iM] at h
     obtain ⟨rfl, rfl⟩ := h
     exact ⟨by rw [h1, e1, e2, e3], h2, h3⟩
 · cases h
theorem CY {U : St} {id : Nat} {kv : List AV × List AV} (h : U.mp id = some kv) : U.set id (.mp kv.1 kv.2) = U := by
 have := St.lg.1 h
 simp only [St.set]
 cases U with
 | mk live nb =>
   simp only [St.mk.injEq, and_true]
   funext q
   split
   · rename_i e; subst e; exact this.symm
   · rfl
theorem Dn.dZ {I : jD} {listed : Array Bool} (hD : Dn ops listed) (hc : lS ops I listed = true) : Dn ops (Go.Rip.dZ listed I.l) := by
 simp only [lS, bF, dU] at hc
 obtain ⟨h0, h1, h2, h3, _⟩ := hc
 have h2 := dr h2
 have mono : ∀ (l : List Nat) (a : Array Bool) (j : Nat), a.getD j false = true -> (Go.Rip.dZ a l).getD j false = true := fun l => by
  induction l with
  | nil => exact fun a j h => h
  | cons i l ih => exact fun a j h => ih _ j (getD_set_true h)
 intro m o ho hl e he hb
 by_cases hm : m ∈ I.l
 · have := (h3 m hm).2.2
   rw [ho] at this
   simp only [zM, dU, gM] at this
   have := this e (by simpa using he)
   rw [hb] at this
   exact mono _ _ _ (by simpa using this)
 · have aH : m < listed.size := by rw [h2]; exact (gD.1 ho).1
   have Yc : listed.getD m false = true := by
    cases hh : listed.getD m true with
    | false =>
      have k := (sb I.l listed m).2 ⟨hh, hm⟩
      have hs : m < (Go.Rip.dZ listed I.l).size := by rw [p8]; exact aH
      simp [hs] at k hl
      rw [k] at hl; cases hl
    | true => simp [aH] at hh ⊢; exact hh
   exact mono _ _ _ (hD m o ho Yc e he hb)
theorem GX {I : jD} {listed : Array Bool} {e : TypeId} {mm : Nat} {K1 : Env -> St -> Prop} (ht : mx C.P I.t = some (.i, e)) (hc : lS ops I listed = true)
 (Xz : ∀ ρ U, Dn ops (dZ listed I.l) -> cn B az U -> K1 ρ U -> kG C mu ops (cn B az) K Kp mm (dZ listed I.l) ρ U) : ∀ ρ U, Dn ops listed -> cn B az U -> EG C ops B I K1 ρ U -> kG C mu ops (cn B az) K Kp (I.l.length + mm) listed ρ U := by
 rintro ρ U hD hI ⟨id, hm, AX, hB, hK⟩
 have Xw := hD.dZ hc
 simp only [lS, bF, dU, dp, Bool.not_eq_true'] at hc
 obtain ⟨h0, h1, h2, h3, h4, h5⟩ := hc
 have h2 := dr h2
 have EC : ∀ i ∈ I.l, ∃ a v, iH ops I i = some (a, v) := fun i hi => by
  have := (h3 i hi).2.1
  obtain ⟨p, hp⟩ := Option.isSome_iff_exists.1 this
  exact ⟨p.1, p.2, hp⟩
 have je : ∀ x, x ∈ jB C ops ρ I ↔ ∃ i ∈ I.l, ∃ a v, iH ops I i = some (a, v) /\ x = ⟨i, a, ρ.ev C v⟩ := fun x => by
  simp only [jB, List.mem_filterMap, kN]
  constructor
  · rintro ⟨i, hi, ⟨a, v⟩, hp, rfl⟩; exact ⟨i, hi, a, v, hp, rfl⟩
  · rintro ⟨i, hi, a, v, hp, rfl⟩; exact ⟨i, hi, (a, v), hp, rfl⟩
 have nP : ∀ j, (∃ x ∈ jB C ops ρ I, x.i = j) ↔ j ∈ I.l := fun j => by
  constructor
  · rintro ⟨x, hx, rfl⟩
    obtain ⟨i, hi, a, v, hp, rfl⟩ := (je _).1 hx
    exact hi
  · intro hj
    obtain ⟨a, v, hp⟩ := EC j hj
    exact ⟨_, (je _).2 ⟨j, hj, a, v, hp, rfl⟩, rfl⟩
 rw [<- CY AX]
 have hlen : (jB C ops ρ I).length = I.l.length := by
  have : ∀ l : List Nat, (∀ i ∈ l, ∃ a v, iH ops I i = some (a, v)) -> (l.filterMap fun i => (iH ops I i).map fun p => (⟨i, p.1, ρ.ev C p.2⟩ : pP)).length = l.length := fun l => by
   induction l with
   | nil => intro _; rfl
   | cons i l ih =>
     intro h
     obtain ⟨a, v, hp⟩ := h i (by simp)
     simp only [List.filterMap_cons, hp, Option.map_some, mB, ih fun j hj => h j (by simp [hj])]
  exact this _ EC
 have Yp : (jB C ops ρ I).Pairwise (fun x y => x.i ≠ y.i /\ x.key ≠ y.key) := by
  have : ∀ l : List Nat, (∀ i ∈ l, ∃ a v, iH ops I i = some (a, v)) -> l.Nodup -> (l.map fun i => ((iH ops I i).map (·.1)).getD 0).Nodup -> (l.filterMap fun i => (iH ops I i).map fun p => (⟨i, p.1, ρ.ev C p.2⟩ : pP)).Pairwise (fun x y => x.i ≠ y.i /\ x.key ≠ y.key) := fun l => by
   induction l with
   | nil => intro _ _ _; exact List.Pairwise.nil
   | cons i l ih =>
     intro h hn hk
     obtain ⟨a, v, hp⟩ := h i (by simp)
     rw [List.nodup_cons] at hn
     rw [de, List.nodup_cons] at hk
     simp only [List.filterMap_cons, hp, Option.map_some]
     refine List.Pairwise.cons (fun y hy => ?_) (ih (fun j hj => h j (by simp [hj])) hn.2 hk.2)
     rw [List.mem_filterMap] at hy
     obtain ⟨j, hj, UP⟩ := hy
     rw [kN] at UP
     obtain ⟨p, Dt, rfl⟩ := UP
     refine ⟨fun e => hn.1 (by have e : i = j := e; rw [e]; exact hj), fun e => hk.1 ?_⟩
     have e : a = p.1 := e
     refine List.mem_map.2 ⟨j, hj, ?_⟩
     rw [Dt, hp]; simp [e]
  exact this _ EC h4 h5
 refine NR (kk := I.kk) ht hm hB mm _ (jB C ops ρ I) listed U ([], []) hlen ?_ ?_ Yp ?_ hI ⟨rfl, fun y hy => by cases hy⟩ (fun x hx => by simp) ?_
 · intro x hx
   exact h1 x.i ((nP x.i).1 ⟨x, hx, rfl⟩)
 · intro j o ho hj
   have aH : j < ops.size := (gD.1 ho).1
   simp only [xP, dU, List.mem_range, gM] at h0
   have := h0 j aH
   rw [ho, hj] at this
   rcases this with h | h | h
   · cases h
   · left; exact (nP j).2 (by simpa using h)
   · right
     intro x hx
     simp only [dU] at h
     have := h x.i ((nP x.i).1 ⟨x, hx, rfl⟩)
     rw [List.any_eq_true] at this
     obtain ⟨ed, he, hb⟩ := this
     simp only [bF] at hb
     exact ⟨ed, by simpa using he, hb.1, dr hb.2⟩
 · intro x hx
   obtain ⟨i, hi, a, v, hp, rfl⟩ := (je _).1 hx
   unfold iH at hp
   rw [Option.bind_eq_some_iff] at hp
   obtain ⟨o, ho, hp⟩ := hp
   obtain ⟨q1, q2, q3⟩ := EI hp
   refine ⟨o, v, ho, q1, q2, q3, rfl, fun ed he hb => ?_⟩
   have := (h3 i hi).2.2
   rw [ho] at this
   simp only [zM, dU, gM] at this
   have := this ed (by simpa using he)
   rw [hb] at this
   simpa using this
 · intro iJ c7 yU
   have e : iJ = dZ listed I.l := by
    apply Array.ext (by rw [p8, c7])
    intro j wI oG
    have k1 := yU j
    have k2 := sb I.l listed j
    rw [nP] at k1
    have k3 : iJ.getD j true = false ↔ (dZ listed I.l).getD j true = false := k1.trans k2.symm
    have e1 : iJ.getD j true = iJ[j] := by simp [wI]
    have e2 : (dZ listed I.l).getD j true = (dZ listed I.l)[j] := by simp [oG]
    rw [e1, e2] at k3
    cases h1 : iJ[j] <;> cases h2 : (dZ listed I.l)[j] <;> simp_all
   rw [e]
   refine Xz ρ _ Xw ?_ hK
   intro b hb
   have bX : b ≠ id := fun e => hB (e ▸ hb)
   simp only [St.set, if_neg bX]
   exact hI b hb
def pJ (P : Program) (ops : Array Oper) (ct : List (Bool × Nat)) (I : jD) (post : List (Bool × Nat)) : Bool :=
 (match lh ops ct (Array.replicate ops.size false) with | some l => lS ops I l && fS ops post (dZ l I.l) | none => false) && (Nat.beq (ct.length + (I.l.length + post.length)) ops.size && (match mx P I.t with | some (.i, _) => true | _ => false))
theorem aY.HE {nt id : Nat} {ro : Ro} {Q : Ex -> Env -> St -> Prop} {ρ : Env} {U : St} (ct : List (Bool × Nat)) (I : jD) (post : List (Bool × Nat)) (hm : C.P.follows .mixedOrders = true) (bV : jk nt ops = true) (hp : pJ C.P ops ct I post = true)
 (h : jl C mu ops B U (EG C ops B I (jl C mu ops B U (KQ Q) (sN Q) post)) (sN Q) ct ρ U) : aY C nt ro (.region id ops true) Q ρ U := by
 simp only [pJ, bF] at hp
 obtain ⟨h1, h2, h3⟩ := hp
 have h2 := dr h2
 split at h3
 · rename_i e ht
   split at h1
   · rename_i l hl
     rw [bF] at h1
     refine aY.zq mu (cn B U) hm bV ?_
     have := vK (GX ht h1.1 (fun cO ad Xv wD hk => pH post _ cO ad h1.2 Xv (.inr wD) hk)) ct _ ρ U hl (Dn.none _ _) (fun _ _ => rfl) h
     rw [h2] at this
     exact this
   · cases h1
 · cases h3
end
end Go.Rip
namespace Go.Rip
open Go.RowKit
structure Row where
 d : Nat
 l : Nat
 a : Nat
def D4 : Option Nat -> Nat
 | some d => 2 ^ d
 | none => 0
def lx : List Nat -> Nat
 | [] => 0
 | d :: l => Nat.lor (2 ^ d) (lx l)
theorem cD (k : Nat) : ∀ l : List Nat, (lx l).testBit k = true ↔ k ∈ l
 | [] => by simp [lx]
 | d :: l => by
   show (2 ^ d ||| lx l).testBit k = true ↔ _
   rw [Nat.testBit_or, Nat.testBit_two_pow, gM, cD k l]
   simp [eq_comm]
theorem fU (k : Nat) (o : Option Nat) : (D4 o).testBit k = true ↔ o = some k := by
 cases o with
 | none => simp [D4]
 | some d => simp [D4, Nat.testBit_two_pow]
def sP (o : Oper) : List Nat := (o.after.toList.filter fun e => Region.binds .any e).map (·.on)
def rowOf (ops : Array Oper) (o : Oper) : Row := ⟨D4 o.dst, lx (o.looksAt ops), lx (sP o)⟩
def js (a b : Nat) : Bool := Nat.beq (Nat.land a b) a
def Ec (a b : Nat) : Bool := Nat.beq (Nat.land a b) 0
theorem nA {a b : Nat} (h : js a b = true) (k : Nat) (hk : a.testBit k = true) : b.testBit k = true := by
 have e : a &&& b = a := dr h
 have := congrArg (fun n => n.testBit k) e
 simp only [Nat.testBit_and, hk, Bool.true_and] at this
 exact this
theorem lN {a b : Nat} (h : Ec a b = true) (k : Nat) (hk : a.testBit k = true) : ¬ b.testBit k = true := by
 have e : a &&& b = 0 := dr h
 have := congrArg (fun n => n.testBit k) e
 simp only [Nat.testBit_and, hk, Bool.true_and, Nat.zero_testBit] at this
 simp [this]
def hasB (m i : Nat) : Bool := Nat.beq (Nat.land (Nat.shiftRight m i) 1) 1
theorem jA (m i : Nat) : hasB m i = m.testBit i := by
 have e : Nat.land (Nat.shiftRight m i) 1 = 1 &&& (m >>> i) := Nat.and_comm _ _
 unfold hasB Nat.testBit
 rw [e]
 cases h : Nat.beq (1 &&& m >>> i) 1 with
 | true => have := dr h; rw [this]; rfl
 | false =>
   have h1 : (1 &&& m >>> i) ≠ 1 := fun e => by rw [e] at h; simp at h
   have h2 : (1 &&& m >>> i) = 0 := by
    have : 1 &&& (m >>> i) = (m >>> i) % 2 := Nat.one_and_eq_mod_two _
    omega
   rw [h2]; rfl
def zU (i : Nat) (x y : Row) : Bool := hasB y.a i || (Ec x.d y.l && (Ec x.d y.d && Ec y.d x.l))
def vq (done i : Nat) (x : Row) : List Row -> Nat -> Bool
 | [], _ => true
 | y :: r, j => (Nat.beq j i || (hasB done j || zU i x y)) && vq done i x r (j + 1)
def vp (done i : Nat) : List Row -> Nat -> Bool
 | [], _ => true
 | y :: r, j => (Nat.beq j i || (hasB done j || !js y.a done)) && vp done i r (j + 1)
def rQ (rows : List Row) (n : Nat) : List (Bool × Nat) -> Nat -> Bool
 | [], done => Nat.beq done (2 ^ n - 1)
 | (true, i) :: r, done => match rows[i]? with
   | some x => !hasB done i && (js x.a done && (vq done i x rows 0 && rQ rows n r (Nat.lor done (2 ^ i))))
   | none => false
 | (false, i) :: r, done => match rows[i]? with
   | some x => !hasB done i && (js x.a done && (vp done i rows 0 && rQ rows n r (Nat.lor done (2 ^ i))))
   | none => false
theorem sS {done i : Nat} {x : Row} : ∀ {l : List Row} {j : Nat}, vq done i x l j = true -> ∀ k y, l[k]? = some y -> (j + k = i \/ done.testBit (j + k) = true \/ zU i x y = true)
 | [], _, _, k, y, hy => by simp at hy
 | z :: r, j, h, k, y, hy => by
   simp only [vq, bF, gM, jA] at h
   cases k with
   | zero =>
     simp at hy; subst hy
     rcases h.1 with h | h | h
     · exact .inl (dr h)
     · exact .inr (.inl h)
     · exact .inr (.inr h)
   | succ k =>
     have := sS h.2 k y (by simpa using hy)
     rw [show j + (k + 1) = j + 1 + k by omega]; exact this
theorem sR {done i : Nat} : ∀ {l : List Row} {j : Nat}, vp done i l j = true -> ∀ k y, l[k]? = some y -> (j + k = i \/ done.testBit (j + k) = true \/ js y.a done = false)
 | [], _, _, k, y, hy => by simp at hy
 | z :: r, j, h, k, y, hy => by
   simp only [vp, bF, gM, jA, Bool.not_eq_true'] at h
   cases k with
   | zero =>
     simp at hy; subst hy
     rcases h.1 with h | h | h
     · exact .inl (dr h)
     · exact .inr (.inl h)
     · exact .inr (.inr h)
   | succ k =>
     have := sR h.2 k y (by simpa using hy)
     rw [show j + (k + 1) = j + 1 + k by omega]; exact this
def eM (n : Nat) (listed : Array Bool) (done : Nat) : Prop := listed.size = n /\ ∀ k, k < n -> listed[k]? = some (done.testBit k)
section
variable {ops : Array Oper} {listed : Array Bool} {done : Nat}
theorem eM.get (h : eM ops.size listed done) {k : Nat} (hk : k < ops.size) (d : Bool) : listed.getD k d = done.testBit k := by
 have := h.2 k hk
 simp [this]
theorem eM.out (h : eM ops.size listed done) {k : Nat} (hk : ¬ k < ops.size) (d : Bool) : listed.getD k d = d := by
 have : listed[k]? = none := rX (by rw [h.1]; omega)
 simp [this]
theorem eM.set (h : eM ops.size listed done) (i : Nat) : eM ops.size (listed.setIfInBounds i true) (Nat.lor done (2 ^ i)) := by
 refine ⟨by simp [h.1], fun k hk => ?_⟩
 show _ = some ((done ||| 2 ^ i).testBit k)
 rw [Nat.testBit_or, Nat.testBit_two_pow]
 by_cases e : i = k
 · subst e
   have : i < listed.size := by rw [h.1]; exact hk
   simp [Array.getElem?_setIfInBounds, this]
 · rw [Array.getElem?_setIfInBounds_ne e, h.2 k hk]
   simp [e]
theorem sa {i : Nat} {x : Row} (h : (ops.toList.map (rowOf ops))[i]? = some x) : ∃ o, ops[i]? = some o /\ x = rowOf ops o := by
 rw [jm, kN] at h
 obtain ⟨o, ho, e⟩ := h
 exact ⟨o, by simpa using ho, e.symm⟩
theorem oo {o : Oper} {k : Nat} : k ∈ sP o ↔ ∃ e ∈ o.after, Region.binds .any e = true /\ e.on = k := by
 simp [sP, and_assoc]
theorem lV (h : eM ops.size listed done) {j : Nat} {o : Oper} (ho : ops[j]? = some o) : j ∈ Region.ready .any ops listed ↔ done.testBit j = false /\ ∀ k, k ∈ sP o -> k < ops.size /\ done.testBit k = true := by
 have hj : j < ops.size := (gD.1 ho).1
 rw [mem_ready, h.get hj]
 refine and_congr_right fun _ => ⟨?_, ?_⟩
 · rintro ⟨o', Mu, bw⟩ k hk
   rw [ho] at Mu; cases Mu
   obtain ⟨e, he, hb, rfl⟩ := oo.1 hk
   have := bw e he hb
   by_cases hk : e.on < ops.size
   · rw [h.get hk] at this; exact ⟨hk, this⟩
   · rw [h.out hk] at this; cases this
 · intro bw
   refine ⟨o, ho, fun e he hb => ?_⟩
   obtain ⟨hk, ht⟩ := bw e.on (oo.2 ⟨e, he, hb, rfl⟩)
   rw [h.get hk]; exact ht
theorem zG {i : Nat} {o : Oper} (hm : eM ops.size listed done) (ho : ops[i]? = some o) (h3 : vq done i (rowOf ops o) (ops.toList.map (rowOf ops)) 0 = true) : Region.free .any ops listed i = true := by
 simp only [Region.free, ho, dU, List.mem_range, gM]
 intro j hj
 obtain ⟨oj, lR⟩ : ∃ oj, ops[j]? = some oj := ⟨ops[j], by simp [hj]⟩
 rw [lR]
 have hy : (ops.toList.map (rowOf ops))[j]? = some (rowOf ops oj) := by
  rw [jm]; simp [lR]
 rcases sS h3 j _ hy with e | e | e
 · left; left; simp at e; simp [e]
 · left; right; rw [hm.get hj]; simpa using e
 · right
   simp only [zU, gM, bF, jA] at e
   show ((oj.after.any fun e => Region.binds .any e && e.on == i) || o.apart ops oj) = true
   rw [gM]
   rcases e with e | ⟨e1, e2, e3⟩
   · left
     have := (cD i _).1 e
     obtain ⟨ed, he, hb, wM⟩ := oo.1 this
     rw [Array.any_eq_true']
     exact ⟨ed, he, by simp [hb, wM]⟩
   · right
     have k1 : ∀ d, o.dst = some d -> d ∉ oj.looksAt ops := fun d hd hm => lN e1 d ((fU d _).2 hd) ((cD d _).2 hm)
     have k2 : ∀ d, o.dst = some d -> oj.dst ≠ some d := fun d hd hm => lN e2 d ((fU d _).2 hd) ((fU d _).2 hm)
     have k3 : ∀ d, oj.dst = some d -> d ∉ o.looksAt ops := fun d hd hm => lN e3 d ((fU d _).2 hd) ((cD d _).2 hm)
     unfold Oper.apart
     cases uS : o.dst <;> cases sB : oj.dst <;> simp only [bF, Bool.not_eq_true', bne_iff_ne, ne_eq, Bool.and_self, and_self, true_and, and_true]
     · rename_i d; simpa using k3 d sB
     · rename_i d; exact ⟨by simpa using k1 d uS, by simp⟩
     · rename_i d d'
       refine ⟨⟨by simpa using k1 d uS, fun e => k2 d uS (by rw [sB]; exact e)⟩, by simpa using k3 d' sB⟩
theorem tS {i : Nat} {o : Oper} (hm : eM ops.size listed done) (ho : ops[i]? = some o) (h1 : done.testBit i = false) (sub : ∀ k, k ∈ sP o -> k < ops.size /\ done.testBit k = true) (h3 : vp done i (ops.toList.map (rowOf ops)) 0 = true) : Region.ready .any ops listed = [i] := by
 have key : ∀ j, j ∈ Region.ready .any ops listed -> j = i := fun j hj => by
  obtain ⟨h0, oj, lR, _⟩ := mem_ready.1 hj
  have hr := (lV hm lR).1 hj
  have Dm : j < ops.size := (gD.1 lR).1
  have hy : (ops.toList.map (rowOf ops))[j]? = some (rowOf ops oj) := by
   rw [jm]; simp [lR]
  rcases sR h3 j _ hy with e | e | e
  · simpa using e
  · rw [ck] at e; rw [hr.1] at e; cases e
  · exfalso
    have : js (rowOf ops oj).a done = true := by
     unfold js
     have e2 : (rowOf ops oj).a &&& done = (rowOf ops oj).a := by
      apply Nat.eq_of_testBit_eq
      intro k
      rw [Nat.testBit_and]
      cases hk : (rowOf ops oj).a.testBit k with
      | false => rfl
      | true => rw [(hr.2 k ((cD k _).1 hk)).2]; rfl
     show Nat.beq ((rowOf ops oj).a &&& done) _ = true
     rw [e2]; simp
    rw [this] at e; cases e
 have je := (lV hm ho).2 ⟨h1, sub⟩
 have hnd : (Region.ready .any ops listed).Nodup := (List.Pairwise.filter _ List.nodup_range)
 match hl : Region.ready .any ops listed with
 | [] => rw [hl] at je; cases je
 | [x] => rw [hl] at key; rw [key x (by simp)]
 | x :: y :: zs =>
   rw [hl] at key hnd
   have e1 := key x (by simp)
   have e2 := key y (by simp)
   subst e1; subst e2
   simp at hnd
theorem rR : ∀ (ct : List (Bool × Nat)) (listed : Array Bool) (done : Nat), eM ops.size listed done -> done < 2 ^ ops.size -> rQ (ops.toList.map (rowOf ops)) ops.size ct done = true -> fS ops ct listed = true
 | [], listed, done, hm, aH, h => by
   have e : done = 2 ^ ops.size - 1 := dr h
   simp only [fS, List.isEmpty_iff]
   rw [List.eq_nil_iff_forall_not_mem]
   intro j hj
   obtain ⟨h0, o, ho, _⟩ := mem_ready.1 hj
   have Dm : j < ops.size := (gD.1 ho).1
   rw [hm.get Dm, e, Nat.testBit_two_pow_sub_one] at h0
   simp [Dm] at h0
 | (true, i) :: r, listed, done, hm, aH, h => by
   simp only [rQ] at h
   split at h
   · rename_i x hx
     obtain ⟨o, ho, rfl⟩ := sa hx
     simp only [bF, Bool.not_eq_true', jA] at h
     obtain ⟨h1, h2, h3, h4⟩ := h
     have hi : i < ops.size := (gD.1 ho).1
     have nG : Nat.lor done (2 ^ i) < 2 ^ ops.size := Nat.or_lt_two_pow aH (Nat.pow_lt_pow_right (by omega) hi)
     have sub : ∀ k, k ∈ sP o -> k < ops.size /\ done.testBit k = true := fun k hk => by
      have := nA h2 k ((cD k _).2 hk)
      refine ⟨?_, this⟩
      rcases ga k ops.size with h | h
      · exact h
      · rw [Nat.testBit_lt_two_pow (Nat.lt_of_lt_of_le aH (Nat.pow_le_pow_right (by omega) h))] at this; cases this
     simp only [fS, bF]
     refine ⟨⟨?_, ?_⟩, rR r _ _ (hm.set i) nG h4⟩
     · simp only [List.contains_iff_mem]
       exact (lV hm ho).2 ⟨h1, sub⟩
     · simp only [Region.free, ho, dU, List.mem_range, gM]
       intro j hj
       obtain ⟨oj, lR⟩ : ∃ oj, ops[j]? = some oj := ⟨ops[j], by simp [hj]⟩
       rw [lR]
       have hy : (ops.toList.map (rowOf ops))[j]? = some (rowOf ops oj) := by
        rw [jm]; simp [lR]
       rcases sS h3 j _ hy with e | e | e
       · left; left; simp at e; simp [e]
       · left; right; rw [hm.get hj]; simpa using e
       · right
         simp only [zU, gM, bF, jA] at e
         show ((oj.after.any fun e => Region.binds .any e && e.on == i) || o.apart ops oj) = true
         rw [gM]
         rcases e with e | ⟨e1, e2, e3⟩
         · left
           have := (cD i _).1 e
           obtain ⟨ed, he, hb, wM⟩ := oo.1 this
           rw [Array.any_eq_true']
           exact ⟨ed, he, by simp [hb, wM]⟩
         · right
           have k1 : ∀ d, o.dst = some d -> d ∉ oj.looksAt ops := fun d hd hm => lN e1 d ((fU d _).2 hd) ((cD d _).2 hm)
           have k2 : ∀ d, o.dst = some d -> oj.dst ≠ some d := fun d hd hm => lN e2 d ((fU d _).2 hd) ((fU d _).2 hm)
           have k3 : ∀ d, oj.dst = some d -> d ∉ o.looksAt ops := fun d hd hm => lN e3 d ((fU d _).2 hd) ((cD d _).2 hm)
           unfold Oper.apart
           cases uS : o.dst <;> cases sB : oj.dst <;> simp only [bF, Bool.not_eq_true', bne_iff_ne, ne_eq, Bool.and_self, and_self, true_and, and_true]
           · rename_i d; simpa using k3 d sB
           · rename_i d; exact ⟨by simpa using k1 d uS, by simp⟩
           · rename_i d d'
             refine ⟨⟨by simpa using k1 d uS, fun e => k2 d uS (by rw [sB]; exact e)⟩, by simpa using k3 d' sB⟩
   · cases h
 | (false, i) :: r, listed, done, hm, aH, h => by
   simp only [rQ] at h
   split at h
   · rename_i x hx
     obtain ⟨o, ho, rfl⟩ := sa hx
     simp only [bF, Bool.not_eq_true', jA] at h
     obtain ⟨h1, h2, h3, h4⟩ := h
     have hi : i < ops.size := (gD.1 ho).1
     have nG : Nat.lor done (2 ^ i) < 2 ^ ops.size := Nat.or_lt_two_pow aH (Nat.pow_lt_pow_right (by omega) hi)
     have sub : ∀ k, k ∈ sP o -> k < ops.size /\ done.testBit k = true := fun k hk => by
      have := nA h2 k ((cD k _).2 hk)
      refine ⟨?_, this⟩
      rcases ga k ops.size with h | h
      · exact h
      · rw [Nat.testBit_lt_two_pow (Nat.lt_of_lt_of_le aH (Nat.pow_le_pow_right (by omega) h))] at this; cases this
     simp only [fS, bF, beq_iff_eq]
     refine ⟨?_, rR r _ _ (hm.set i) nG h4⟩
     have key : ∀ j, j ∈ Region.ready .any ops listed -> j = i := fun j hj => by
      obtain ⟨h0, oj, lR, _⟩ := mem_ready.1 hj
      have hr := (lV hm lR).1 hj
      have Dm : j < ops.size := (gD.1 lR).1
      have hy : (ops.toList.map (rowOf ops))[j]? = some (rowOf ops oj) := by
       rw [jm]; simp [lR]
      rcases sR h3 j _ hy with e | e | e
      · simpa using e
      · rw [ck] at e; rw [hr.1] at e; cases e
      · exfalso
        have : js (rowOf ops oj).a done = true := by
         unfold js
         have e2 : (rowOf ops oj).a &&& done = (rowOf ops oj).a := by
          apply Nat.eq_of_testBit_eq
          intro k
          rw [Nat.testBit_and]
          cases hk : (rowOf ops oj).a.testBit k with
          | false => rfl
          | true => rw [(hr.2 k ((cD k _).1 hk)).2]; rfl
         show Nat.beq ((rowOf ops oj).a &&& done) _ = true
         rw [e2]; simp
        rw [this] at e; cases e
     have je := (lV hm ho).2 ⟨h1, sub⟩
     have hnd : (Region.ready .any ops listed).Nodup := (List.Pairwise.filter _ List.nodup_range)
     match hl : Region.ready .any ops listed with
     | [] => rw [hl] at je; cases je
     | [x] => rw [hl] at key; rw [key x (by simp)]
     | x :: y :: zs =>
       rw [hl] at key hnd
       have e1 := key x (by simp)
       have e2 := key y (by simp)
       subst e1; subst e2
       simp at hnd
   · cases h
end
def xh : List Row -> List Row -> Bool
 | [], [] => true
 | x :: xs, y :: ys => Nat.beq x.d y.d && (Nat.beq x.l y.l && (Nat.beq x.a y.a && xh xs ys))
 | _, _ => false
theorem vS : ∀ {a b : List Row}, xh a b = true -> a = b
 | [], [], _ => rfl
 | x :: xs, y :: ys, h => by
   simp only [xh, bF] at h
   obtain ⟨h1, h2, h3, h4⟩ := h
   obtain ⟨a, b, c⟩ := x
   obtain ⟨a', b', c'⟩ := y
   have e1 : a = a' := dr h1
   have e2 : b = b' := dr h2
   have e3 : c = c' := dr h3
   rw [e1, e2, e3, vS h4]
 | [], _ :: _, h => by cases h
 | _ :: _, [], h => by cases h
structure Pl where
 steps : List (Bool × Nat)
 rows : List Row
def Fg (ops : Array Oper) (p : Pl) : Bool := xh (ops.toList.map (rowOf ops)) p.rows && (rQ p.rows ops.size p.steps 0 && Nat.beq p.steps.length ops.size)
theorem DQ {ops : Array Oper} {p : Pl} (h : Fg ops p = true) : (fS ops p.steps (Array.replicate ops.size false) && (p.steps.length == ops.size)) = true := by
 simp only [Fg, bF] at h
 obtain ⟨h1, h2, h3⟩ := h
 rw [<- vS h1] at h2
 simp only [bF, beq_iff_eq]
 refine ⟨rR _ _ 0 ⟨by simp, fun k hk => by simp [hk]⟩ (Nat.two_pow_pos _) h2, dr h3⟩
def lU (ops : Array Oper) (rows : List Row) : List (Bool × Nat) -> Nat -> Option Nat
 | [], done => some done
 | (true, i) :: r, done => match rows[i]? with
   | some x => cond (!hasB done i && (js x.a done && vq done i x rows 0)) (lU ops rows r (Nat.lor done (2 ^ i))) none
   | none => none
 | (false, i) :: r, done => match rows[i]? with
   | some x => cond (!hasB done i && (js x.a done && (vp done i rows 0 && !gS ops i))) (lU ops rows r (Nat.lor done (2 ^ i))) none
   | none => none
section
variable {ops : Array Oper}
theorem rS : ∀ (ct : List (Bool × Nat)) (listed : Array Bool) (done dn : Nat), eM ops.size listed done -> done < 2 ^ ops.size -> lU ops (ops.toList.map (rowOf ops)) ct done = some dn ->
 ∃ l, lh ops ct listed = some l /\ eM ops.size l dn /\ dn < 2 ^ ops.size
 | [], listed, done, dn, hm, aH, h => by
   simp only [lU, fy] at h
   subst h
   exact ⟨listed, rfl, hm, aH⟩
 | (b, i) :: r, listed, done, dn, hm, aH, h => by
   obtain ⟨x, hx⟩ : ∃ x, (ops.toList.map (rowOf ops))[i]? = some x := by
    cases b <;> simp only [lU] at h <;> split at h <;> first | exact ⟨_, by assumption⟩ | cases h
   obtain ⟨o, ho, rfl⟩ := sa hx
   have hi : i < ops.size := (gD.1 ho).1
   have nG : Nat.lor done (2 ^ i) < 2 ^ ops.size := Nat.or_lt_two_pow aH (Nat.pow_lt_pow_right (by omega) hi)
   have sub : js (rowOf ops o).a done = true -> ∀ k, k ∈ sP o -> k < ops.size /\ done.testBit k = true := fun h2 k hk => by
    have := nA h2 k ((cD k _).2 hk)
    refine ⟨?_, this⟩
    rcases ga k ops.size with h | h
    · exact h
    · rw [Nat.testBit_lt_two_pow (Nat.lt_of_lt_of_le aH (Nat.pow_le_pow_right (by omega) h))] at this; cases this
   cases b with
   | true =>
     simp only [lU, hx] at h
     cases hc : (!hasB done i && (js (rowOf ops o).a done && vq done i (rowOf ops o) (ops.toList.map (rowOf ops)) 0)) with
     | false => rw [hc] at h; cases h
     | true =>
       rw [hc, cond_true] at h
       simp only [bF, Bool.not_eq_true', jA] at hc
       obtain ⟨l, k1, k2, k3⟩ := rS r _ _ dn (hm.set i) nG h
       refine ⟨l, ?_, k2, k3⟩
       have A8 : (Region.ready .any ops listed).contains i = true := by
        simp only [List.contains_iff_mem]; exact (lV hm ho).2 ⟨hc.1, sub hc.2.1⟩
       have zR : Region.free .any ops listed i = true := zG hm ho hc.2.2
       simp only [lh, A8, zR, Bool.and_self, cond_true]
       exact k1
   | false =>
     simp only [lU, hx] at h
     cases hc : (!hasB done i && (js (rowOf ops o).a done && (vp done i (ops.toList.map (rowOf ops)) 0 && !gS ops i))) with
     | false => rw [hc] at h; cases h
     | true =>
       rw [hc, cond_true] at h
       simp only [bF, Bool.not_eq_true', jA] at hc
       obtain ⟨l, k1, k2, k3⟩ := rS r _ _ dn (hm.set i) nG h
       refine ⟨l, ?_, k2, k3⟩
       have vC : Region.ready .any ops listed = [i] := tS hm ho hc.1 (sub hc.2.1) hc.2.2.1
       have GL : gS ops i = false := by simpa using hc.2.2.2
       simp only [lh, vC, GL, fC, dJ, Bool.and_self, cond_true]
       exact k1
def D2 (im : Nat) (done : Nat) : List Row -> Nat -> Bool
 | [], _ => true
 | y :: r, j => (hasB done j || (hasB im j || js im y.a)) && D2 im done r (j + 1)
def G3 (ops : Array Oper) (rows : List Row) (I : jD) (done : Nat) : Bool := I.l.all fun i => !hasB done i && ((iH ops I i).isSome && (match rows[i]? with | some x => js x.a done | none => false))
def increasing : List Nat -> Bool
 | a :: b :: l => Nat.blt a b && increasing (b :: l)
 | _ => true
def ng : List Int -> Bool
 | a :: b :: l => decide (a < b) && ng (b :: l)
 | _ => true
def vL (P : Program) (ops : Array Oper) (rows : List Row) (ct : List (Bool × Nat)) (I : jD) (post : List (Bool × Nat)) : Bool :=
 xh (ops.toList.map (rowOf ops)) rows && ((match lU ops rows ct 0 with
  | some dn => D2 (lx I.l) dn rows 0 && (G3 ops rows I dn && rQ rows ops.size post (Nat.lor dn (lx I.l)))
  | none => false) && (increasing I.l && (ng (I.l.map fun i => ((iH ops I i).map (·.1)).getD 0) && (Nat.beq (ct.length + (I.l.length + post.length)) ops.size && (match mx P I.t with | some (.i, _) => true | _ => false)))))
theorem sC : ∀ l : List Nat, increasing l = true -> l.Pairwise (· < ·)
 | [], _ => List.Pairwise.nil
 | [a], _ => List.pairwise_singleton ..
 | a :: b :: l, h => by
   simp only [increasing, bF] at h
   have Di : a < b := Nat.le_of_ble_eq_true h.1
   have ih := sC (b :: l) h.2
   refine List.Pairwise.cons (fun y hy => ?_) ih
   rcases dD.1 hy with rfl | hy
   · exact Di
   · exact Nat.lt_trans Di ((List.pairwise_cons.1 ih).1 y hy)
theorem qE : ∀ l : List Int, ng l = true -> l.Pairwise (· < ·)
 | [], _ => List.Pairwise.nil
 | [a], _ => List.pairwise_singleton ..
 | a :: b :: l, h => by
   simp only [ng, bF, dp] at h
   have ih := qE (b :: l) h.2
   refine List.Pairwise.cons (fun y hy => ?_) ih
   rcases dD.1 hy with rfl | hy
   · exact h.1
   · exact Int.lt_trans h.1 ((List.pairwise_cons.1 ih).1 y hy)
theorem yJ {im done : Nat} : ∀ {l : List Row} {j : Nat}, D2 im done l j = true -> ∀ k y, l[k]? = some y -> (done.testBit (j + k) = true \/ im.testBit (j + k) = true \/ js im y.a = true)
 | [], _, _, k, y, hy => by simp at hy
 | z :: r, j, h, k, y, hy => by
   simp only [D2, bF, gM, jA] at h
   cases k with
   | zero => simp at hy; subst hy; exact h.1
   | succ k =>
     have := yJ h.2 k y (by simpa using hy)
     rw [show j + (k + 1) = j + 1 + k by omega]; exact this
theorem eM.dZ {n : Nat} : ∀ (l : List Nat) (listed : Array Bool) (done : Nat), eM ops.size listed done -> eM ops.size (Go.Rip.dZ listed l) (Nat.lor done (lx l))
 | [], listed, done, h => by
   show eM ops.size listed (done ||| 0)
   rw [Nat.or_zero]; exact h
 | i :: l, listed, done, h => by
   have := eM.dZ (n := n) l _ _ (h.set i)
   show eM ops.size (Go.Rip.dZ (listed.setIfInBounds i true) l) (done ||| (2 ^ i ||| lx l))
   rw [<- Nat.or_assoc]; exact this
theorem CR {P : Program} {rows : List Row} {ct : List (Bool × Nat)} {I : jD} {post : List (Bool × Nat)} (h : vL P ops rows ct I post = true) : pJ P ops ct I post = true := by
 simp only [vL, bF] at h
 obtain ⟨h1, h2, h3, h4, h5, h6⟩ := h
 rw [<- vS h1] at h2
 split at h2
 · rename_i dn hd
   simp only [bF] at h2
   obtain ⟨b1, b2, b3⟩ := h2
   obtain ⟨l, k1, k2, k3⟩ := rS ct (Array.replicate ops.size false) 0 dn ⟨by simp, fun k hk => by simp [hk]⟩ (Nat.two_pow_pos _) hd
   have V4 := sC _ h3
   have TA := qE _ h4
   simp only [G3, dU, bF, Bool.not_eq_true', jA] at b2
   have ry : ∀ i ∈ I.l, ∃ o, ops[i]? = some o /\ js (rowOf ops o).a dn = true := fun i hi => by
    have := (b2 i hi).2.2
    split at this
    · rename_i x hx
      obtain ⟨o, ho, rfl⟩ := sa hx
      exact ⟨o, ho, this⟩
    · cases this
   have aH : ∀ i ∈ I.l, i < ops.size := fun i hi => by
    obtain ⟨o, ho, _⟩ := ry i hi
    exact (gD.1 ho).1
   have X0 : lx I.l < 2 ^ ops.size := by
    have : ∀ l : List Nat, (∀ i ∈ l, i < ops.size) -> lx l < 2 ^ ops.size := fun l => by
     induction l with
     | nil => intro _; exact Nat.two_pow_pos _
     | cons i l ih => intro hh; exact Nat.or_lt_two_pow (Nat.pow_lt_pow_right (by omega) (hh i (by simp))) (ih fun j hj => hh j (by simp [hj]))
    exact this _ aH
   have OO : ∀ {o : Oper} {m : Nat}, m < 2 ^ ops.size -> js (rowOf ops o).a m = true -> ∀ e ∈ o.after, Region.binds .any e = true -> m.testBit e.on = true := fun {o m} GH hs e he hb =>
    nA hs e.on ((cD _ _).2 (oo.2 ⟨e, he, hb, rfl⟩))
   simp only [pJ, k1, bF]
   refine ⟨⟨?_, rR post _ _ (eM.dZ (n := 0) I.l l dn k2) (Nat.or_lt_two_pow k3 X0) b3⟩, h5, h6⟩
   simp only [lS, xP, bF, dU, List.mem_range, gM, dp, Bool.not_eq_true']
   refine ⟨fun j hj => ?_, fun i hi => ?_, ?_, fun i hi => ⟨?_, (b2 i hi).2.1, ?_⟩, V4.imp (fun h => Nat.ne_of_lt h), TA.imp (fun h => Int.ne_of_lt h)⟩
   · obtain ⟨o, ho⟩ : ∃ o, ops[j]? = some o := ⟨ops[j], by simp [hj]⟩
     have hy : (ops.toList.map (rowOf ops))[j]? = some (rowOf ops o) := by rw [jm]; simp [ho]
     rcases yJ b1 j _ hy with h | h | h
     · left; rw [k2.get hj]; simpa using h
     · right; left
       have := (cD _ _).1 h
       simpa using this
     · right; right
       rw [ho]
       show (I.l.all fun i => o.after.toList.any fun e => Region.binds .any e && Nat.beq e.on i) = true
       rw [dU]
       intro i hi
       have := nA h i ((cD _ _).2 hi)
       obtain ⟨e, he, hb, wM⟩ := oo.1 ((cD _ _).1 this)
       rw [List.any_eq_true]
       exact ⟨e, by simpa using he, by simp [hb, wM]⟩
   · rw [k2.get (aH i hi)]; exact (b2 i hi).1
   · rw [k2.1]; simp
   · show Nat.ble (i + 1) ops.size = true
     exact Nat.ble_eq_true_of_le (aH i hi)
   · obtain ⟨o, ho, hs⟩ := ry i hi
     rw [ho]
     simp only [zM, dU, gM, Bool.not_eq_true']
     intro e he
     cases hb : Region.binds .any e with
     | false => exact .inl rfl
     | true =>
       right
       have ht := OO k3 hs e (by simpa using he) hb
       have nG : e.on < ops.size := by
        rcases ga e.on ops.size with h | h
        · exact h
        · rw [Nat.testBit_lt_two_pow (Nat.lt_of_lt_of_le k3 (Nat.pow_le_pow_right (by omega) h))] at ht; cases ht
       rw [k2.get nG]; exact ht
 · cases h2
end
end Go.Rip
namespace Go.Rip
open Go.RowKit
inductive T (α : Type) where
 | e
 | n (l : T α) (v : Option α) (r : T α)
theorem tC {a b : Nat} (h : a ≠ b) : Nat.beq a b = false := by
 cases hb : Nat.beq a b with
 | false => rfl
 | true => exact absurd (dr hb) h
theorem E9 {a b : Nat} (h : a = b) : Nat.beq a b = true := by subst h; exact Nat.beq_refl a
namespace T
variable {α : Type}
def get : T α -> Nat -> Option α
 | .e, _ => none
 | .n l v r, i => cond (Nat.beq i 0) v (cond (Nat.beq (i % 2) 1) (l.get (i / 2)) (r.get (i / 2 - 1)))
def sc : Nat -> T α -> Nat -> Option α -> T α
 | 0, t, _, _ => t
 | f + 1, .e, i, v => cond (Nat.beq i 0) (.n .e v .e) (cond (Nat.beq (i % 2) 1) (.n (sc f .e (i / 2) v) none .e) (.n .e none (sc f .e (i / 2 - 1) v)))
 | f + 1, .n l w r, i, v => cond (Nat.beq i 0) (.n l v r) (cond (Nat.beq (i % 2) 1) (.n (sc f l (i / 2) v) w r) (.n l w (sc f r (i / 2 - 1) v)))
def set (t : T α) (i : Nat) (v : Option α) : T α := sc (i + 1) t i v
theorem Kj : ∀ (f : Nat) (t : T α) (i j : Nat) (v : Option α), i < f -> (sc f t i v).get j = if j = i then v else t.get j := by
 intro f
 induction f with
 | zero => intro t i j v h; omega
 | succ f ih =>
   intro t i j v h
   have key : ∀ (l r : T α) (w : Option α), (cond (Nat.beq i 0) (.n l v r) (cond (Nat.beq (i % 2) 1) (.n (sc f l (i / 2) v) w r) (.n l w (sc f r (i / 2 - 1) v))) : T α).get j = if j = i then v else (T.n l w r).get j := fun l r w => by
    by_cases hi : i = 0
    · subst hi
      simp only [Nat.beq_refl, cond_true, get]
      by_cases hj : j = 0
      · subst hj; simp
      · have : Nat.beq j 0 = false := tC hj
        simp [this, hj]
    · have AO : Nat.beq i 0 = false := tC hi
      rw [AO, cond_false]
      by_cases h1 : i % 2 = 1
      · have hb : Nat.beq (i % 2) 1 = true := E9 h1
        rw [hb, cond_true]
        simp only [get]
        by_cases hj : j = 0
        · subst hj
          have : (0 : Nat) ≠ i := fun e => hi e.symm
          simp [this]
        · have yT : Nat.beq j 0 = false := tC hj
          rw [yT, cond_false, cond_false]
          by_cases wI : j % 2 = 1
          · have AP : Nat.beq (j % 2) 1 = true := E9 wI
            rw [AP, cond_true, cond_true, ih _ _ _ _ (by omega)]
            by_cases e : j = i
            · subst e; simp
            · rw [if_neg (by omega), if_neg e]
          · have AP : Nat.beq (j % 2) 1 = false := tC wI
            rw [AP, cond_false, cond_false, if_neg (by omega)]
      · have hb : Nat.beq (i % 2) 1 = false := tC h1
        rw [hb, cond_false]
        simp only [get]
        by_cases hj : j = 0
        · subst hj
          have : (0 : Nat) ≠ i := fun e => hi e.symm
          simp [this]
        · have yT : Nat.beq j 0 = false := tC hj
          rw [yT, cond_false, cond_false]
          by_cases wI : j % 2 = 1
          · have AP : Nat.beq (j % 2) 1 = true := E9 wI
            rw [AP, cond_true, cond_true, if_neg (by omega)]
          · have AP : Nat.beq (j % 2) 1 = false := tC wI
            rw [AP, cond_false, cond_false, ih _ _ _ _ (by omega)]
            by_cases e : j = i
            · subst e; simp
            · rw [if_neg (by omega), if_neg e]
   cases t with
   | n l w r => exact key l r w
   | e =>
     have := key .e .e none
     simp only [sc]
     rw [this]
     congr 1
     simp only [get]
     cases Nat.beq j 0 <;> cases Nat.beq (j % 2) 1 <;> rfl
theorem ot (t : T α) (i j : Nat) (v : Option α) : (t.set i v).get j = if j = i then v else t.get j := Kj _ _ _ _ _ (by omega)
def DK : List α -> Nat -> T α -> T α
 | [], _, t => t
 | x :: xs, i, t => DK xs (i + 1) (t.set i (some x))
theorem Dg : ∀ (l : List α) (i : Nat) (t : T α) (j : Nat), (DK l i t).get j = if i <= j /\ j < i + l.length then l[j - i]? else t.get j
 | [], i, t, j => by simp [DK]; omega
 | x :: xs, i, t, j => by
   simp only [DK]
   rw [Dg xs (i + 1) _ j, ot]
   by_cases h1 : i + 1 <= j /\ j < i + 1 + xs.length
   · rw [if_pos h1, if_pos (by simp; omega)]
     have : j - i = (j - (i + 1)) + 1 := by omega
     rw [this]; simp
   · rw [if_neg h1]
     by_cases h2 : j = i
     · subst h2; simp
     · rw [if_neg h2, if_neg (by simp; omega)]
end T
def dt (t : T AV) : Env := ⟨fun i => (t.get i).getD (.aL [])⟩
theorem Gf (t : T AV) (d : Nat) (v : AV) : dt (t.set d (some v)) = (dt t).put d v := by
 simp only [dt, Env.put, Env.mk.injEq]
 funext i
 rw [T.ot]
 split <;> rfl
def tI (t : T AV) : Option Nat -> AV -> T AV
 | some d, v => t.set d (some v)
 | none, _ => t
theorem lO (t : T AV) (d : Option Nat) (v : AV) : dt (tI t d v) = (dt t).dc d v := by
 cases d with
 | none => rfl
 | some d => exact Gf t d v
theorem Ed (l : List AV) : dt (T.DK l 0 .e) = Env.fQ l := by
 simp only [dt, Env.fQ, Env.mk.injEq]
 funext i
 rw [T.Dg]
 by_cases h : i < l.length
 · rw [if_pos (by omega)]; simp [yo]
 · rw [if_neg (by omega)]
   simp [T.get, yo, rU (Nat.le_of_not_lt h)]
structure ES where
 live : T Live
 n : Nat
def bj (e : ES) : St := ⟨fun b => e.live.get b, some e.n⟩
def ES.set (e : ES) (b : Nat) (x : Live) : ES := ⟨e.live.set b (some x), e.n⟩
def ES.del (e : ES) (b : Nat) : ES := ⟨e.live.set b none, e.n⟩
def ES.nE (e : ES) : Option Nat -> ES
 | some b => e.del b
 | none => e
def ES.new (e : ES) (x : Live) : ES := ⟨e.live.set e.n (some x), e.n + 1⟩
theorem jq (e : ES) (b : Nat) (x : Live) : bj (e.set b x) = (bj e).set b x := by
 simp only [bj, ES.set, St.set, St.mk.injEq, and_true]
 funext y; rw [T.ot]
theorem vW (e : ES) (b : Nat) : bj (e.del b) = (bj e).del b := by
 simp only [bj, ES.del, St.del, St.mk.injEq, and_true]
 funext y; rw [T.ot]
theorem Jv (e : ES) (b : Option Nat) : bj (e.nE b) = (bj e).nE b := by
 cases b with
 | none => rfl
 | some b => exact vW e b
theorem mW (e : ES) (x : Live) : bj (e.new x) = (bj e).new e.n x := by
 simp only [bj, ES.new, St.new, St.mk.injEq, Option.map_some, and_true]
 funext y; rw [T.ot]
def Kb : Fn -> Fn -> Bool
 | .func a, .func b => Nat.beq a b
 | _, _ => false
theorem NO {a b : Fn} (h : Kb a b = true) : a = b := by
 cases a <;> cases b <;> simp only [Kb, bl] at h
 rw [dr h]
def Ee : ik -> ik -> Bool
 | .full, .full => true
 | .own a, .own b => Nat.beq a b
 | .gq, .gq => true
 | _, _ => false
theorem Ka {a b : ik} (h : Ee a b = true) : a = b := by
 cases a <;> cases b <;> simp only [Ee, bl] at h <;> first
  | rfl
  | rw [dr h]
mutual
def fE : AV -> AV -> Bool
 | .bool a, .bool b => a == b
 | .int k a, .int k' b => decide (k = k') && decide (a = b)
 | .str a, .str b => decide (a = b)
 | .aR, .aR | .aq, .aq | .iK, .iK | .cx, .cx | .cg, .cg => true
 | .box a i, .box b j => Nat.beq a b && Nat.beq i j
 | .bL l, .bL l' => kH l l'
 | .vec n c l, .vec n' c' l' => Nat.beq n n' && Ee c c' && kH l l'
 | .ms b o n z e, .ms b' o' n' z' e' => Nat.beq b b' && Nat.beq o o' && Nat.beq n n' && Nat.beq z z' && Nat.beq e e'
 | .mp a, .mp b => Nat.beq a b
 | .dL ks vs, .dL ks' vs' => kH ks ks' && kH vs vs'
 | .func f a b, .func f' a' b' => Kb f f' && kH a a' && kH b b'
 | .iface t v, .iface t' v' => Nat.beq t t' && fE v v'
 | .agg l, .agg l' => kH l l'
 | .aL l, .aL l' => kH l l'
 | .nB a, .nB b => Nat.beq a b
 | .it a, .it b => Nat.beq a b
 | .any, .any => true
 | _, _ => false
def kH : List AV -> List AV -> Bool
 | [], [] => true
 | x :: xs, y :: ys => fE x y && kH xs ys
 | _, _ => false
end
mutual
theorem qq : ∀ {a b : AV}, fE a b = true -> a = b
 | .bool a, b, h => by cases b <;> simp only [fE, bl] at h; simpa using h
 | .int k a, b, h => by cases b <;> simp only [fE, bl] at h; simpa using h
 | .str a, b, h => by cases b <;> simp only [fE, bl] at h; simpa using h
 | .aR, b, h => by cases b <;> simp only [fE, bl] at h; rfl
 | .aq, b, h => by cases b <;> simp only [fE, bl] at h; rfl
 | .iK, b, h => by cases b <;> simp only [fE, bl] at h; rfl
 | .cx, b, h => by cases b <;> simp only [fE, bl] at h; rfl
 | .cg, b, h => by cases b <;> simp only [fE, bl] at h; rfl
 | .box a i, b, h => by cases b <;> simp only [fE, bl, bF] at h; rw [dr h.1, dr h.2]
 | .bL l, b, h => by cases b <;> simp only [fE, bl] at h; rw [gr h]
 | .vec n c l, b, h => by cases b <;> simp only [fE, bl, bF] at h; rw [dr h.1.1, Ka h.1.2, gr h.2]
 | .ms b o n z e, b', h => by
   cases b' <;> simp only [fE, bl, bF] at h
   rw [dr h.1.1.1.1, dr h.1.1.1.2, dr h.1.1.2, dr h.1.2, dr h.2]
 | .mp a, b, h => by cases b <;> simp only [fE, bl] at h; rw [dr h]
 | .dL ks vs, b, h => by cases b <;> simp only [fE, bl, bF] at h; rw [gr h.1, gr h.2]
 | .func f a b, b', h => by cases b' <;> simp only [fE, bl, bF] at h; rw [NO h.1.1, gr h.1.2, gr h.2]
 | .iface t v, b, h => by cases b <;> simp only [fE, bl, bF] at h; rw [dr h.1, qq h.2]
 | .agg l, b, h => by cases b <;> simp only [fE, bl] at h; rw [gr h]
 | .aL l, b, h => by cases b <;> simp only [fE, bl] at h; rw [gr h]
 | .nB a, b, h => by cases b <;> simp only [fE, bl] at h; rw [dr h]
 | .it a, b, h => by cases b <;> simp only [fE, bl] at h; rw [dr h]
 | .any, b, h => by cases b <;> simp only [fE, bl] at h; rfl
theorem gr : ∀ {a b : List AV}, kH a b = true -> a = b
 | [], b, h => by cases b <;> simp only [kH, bl] at h; rfl
 | x :: xs, b, h => by cases b <;> simp only [kH, bl, bF] at h; rw [qq h.1, gr h.2]
end
def Az : Option Live -> Option Live -> Bool
 | some (.box l), some (.box l') => kH l l'
 | some (.mp a b), some (.mp a' b') => kH a a' && kH b b'
 | _, _ => false
theorem Gg {a b : Option Live} (h : Az a b = true) : a = b := by
 unfold Az at h
 split at h
 · rw [gr h]
 · simp only [bF] at h; rw [gr h.1, gr h.2]
 · cases h
end Go.Rip
namespace Go.Rip
open Go.RowKit
structure eX where
 C : bQ
 mu : Nat -> List Nat
 pf : Nat -> Bool
 sm : Nat -> List AV -> Option AV
 Ni : Nat -> List AV -> ES -> Option (AV × ES)
 tr : Nat -> Bool
 ft : TypeId
 ins : Nat -> Nat -> Option (List Row × List (Bool × Nat) × jD × List (Bool × Nat)) := fun _ _ => none
abbrev KR := cm -> ES -> Bool
abbrev KC := Ex -> T AV -> ES -> Bool
abbrev nU := Nat -> List AV -> ES -> KR -> Bool
def rK (k kp : AV -> ES -> Bool) : KR
 | .ret v, e => k v e
 | .panic v, e => kp v e
def uD (cf cy : nU) (e : ES) : aA -> (AV -> ES -> Bool) -> (AV -> ES -> Bool) -> Bool
 | .val v, k, _ => k v e
 | .ir v b x, k, _ => k v (e.set b x)
 | .new kd del x, k, _ => k (kd.at e.n) ((e.nE del).new x)
 | .gT b l, k, _ => l.all fun p => k p.1 (e.set b p.2)
 | .enter f args, k, kp => cf f args e (rK k kp)
 | .yield o args, k, kp => cy o args e (rK k kp)
 | .panic v, _, kp => kp v e
 | @aA.cond p d r, k, kp => (@decide p d) && uD cf cy e r k kp
 | .bad, _, _ => false
def wx (V : eX) (cf cy : nU) (mu : List Nat) (ops : Array Oper) : List Oper -> T AV -> ES -> (T AV -> ES -> Bool) -> (AV -> ES -> Bool) -> Bool
 | [], ρ, e, k, _ => k ρ e
 | o :: rest, ρ, e, k, kp => match eQ ops (dt ρ) o.guard with
   | .bool true => uD cf cy e (fR V.C (lF mu o) o.op (dt ρ) (bj e)) (fun v e' => wx V cf cy mu ops rest (tI ρ o.dst v) e' k kp) kp
   | .bool false => wx V cf cy mu ops rest (tI ρ o.dst (.aL [])) e k kp
   | _ => false
def DW (V : eX) : aA -> Option AV
 | .val v => some v
 | @aA.cond p d r => cond (@decide p d) (DW V r) none
 | .enter f args => V.sm f args
 | _ => none
def Fm (B : List Nat) (e0 e : ES) : Bool := B.all fun b => Az (e.live.get b) (e0.live.get b)
def x7 (C : bQ) (B : List Nat) (ρ : Env) (op : Op) : Bool := op.operands.toList.all fun x => (cQ (ρ.ev C x)).all fun b => B.any fun c => Nat.beq c b
def kU (V : eX) (cf cy : nU) (mu : List Nat) (ops : Array Oper) (B : List Nat) (e0 : ES) : List (Bool × Nat) -> T AV -> ES -> (T AV -> ES -> Bool) -> (AV -> ES -> Bool) -> Bool
 | [], ρ, e, k, _ => k ρ e
 | (true, i) :: r, ρ, e, k, kp => match ops[i]? with
   | none => false
   | some o => match eQ ops (dt ρ) o.guard with
     | .bool true => quiet o.op && (!ky o.op || x7 V.C B (dt ρ) o.op) && (match DW V (fR V.C (lF mu o) o.op (dt ρ) (bj e0)) with
       | some v => kU V cf cy mu ops B e0 r (tI ρ o.dst v) e k kp
       | none => false)
     | .bool false => kU V cf cy mu ops B e0 r (tI ρ o.dst (.aL [])) e k kp
     | _ => false
 | (false, i) :: r, ρ, e, k, kp => match ops[i]? with
   | none => false
   | some o => match eQ ops (dt ρ) o.guard with
     | .bool true => uD cf cy e (fR V.C (lF mu o) o.op (dt ρ) (bj e)) (fun v e' => (Fm B e0 e' || gS ops i) && kU V cf cy mu ops B e0 r (tI ρ o.dst v) e' k kp) kp
     | .bool false => kU V cf cy mu ops B e0 r (tI ρ o.dst (.aL [])) e k kp
     | _ => false
def HB (V : eX) (o : Oper) : Bool := match o.op with
 | .call c => match c.callee with
   | .value (.func f) => V.pf f
   | .value _ => false
   | _ => quiet o.op
 | op => quiet op
def tB (V : eX) (ops : Array Oper) : Nat -> Array Bool -> List (Bool × Nat)
 | 0, _ => []
 | n + 1, listed => match (Region.ready .any ops listed).find? fun i => match ops[i]? with | some o => HB V o | none => false with
   | some i => (true, i) :: tB V ops n (listed.setIfInBounds i true)
   | none => match Region.ready .any ops listed with
     | i :: _ => (false, i) :: tB V ops n (listed.setIfInBounds i true)
     | [] => []
def preB (V : eX) (mu : List Nat) (e0 : ES) : List Oper -> T AV -> List Nat -> List Nat
 | [], _, B => B
 | o :: r, ρ, B => preB V mu e0 r (tI ρ o.dst (cond (HB V o) ((DW V (fR V.C (lF mu o) o.op (dt ρ) (bj e0))).getD .any) .any)) (cond (ky o.op) (o.op.operands.toList.flatMap (fun x => cQ ((dt ρ).ev V.C x)) ++ B) B)
def EY (P : Program) (ty : TypeId) (p : AV) (U : St) : Option AV := match pB P ty p U with
 | .val v => some v
 | @aA.cond q d (.val v) => cond (@decide q d) (some v) none
 | _ => none
def vR (P : Program) (ρ : Env) (U : St) : List ResultVar -> Option (List AV)
 | [] => some []
 | .tmp t :: rs => (vR P ρ U rs).map fun vs => ρ.get t :: vs
 | .cell t ty :: rs => match EY P ty (ρ.get t) U with
   | some v => (vR P ρ U rs).map fun vs => v :: vs
   | none => none
abbrev pa := Nat -> List Nat -> Nat -> Ro -> Code -> T AV -> ES -> KC -> Bool
def J6 (P : Program) (fn : Func) (k : KR) : KC := fun ex ρ e => match ex with
 | .normal | .ret => match vR P (dt ρ) (bj e) fn.results.toList with
   | some vs => k (.ret (qe vs)) e
   | none => false
 | .panic x => k (.panic x) e
 | .exit _ => false
def B4 (ft : TypeId) (a : Nat) (k : KR) : KR
 | .ret v, e => match (bj e).box a, (bj e).box (a + 1), (bj e).box (a + 2) with
   | some [_], some [_], some [_] => v.scalar && k (.ret (.aL [v, .int .i64 0, .bool true])) (((e.set a (.box [v])).set (a + 1) (.box [.int .i64 0])).set (a + 2) (.box [.bool true]))
   | _, _, _ => false
 | .panic x, e => match x, (bj e).box a, (bj e).box (a + 1), (bj e).box (a + 2) with
   | .iface t (.agg [.int .i64 at_]), some [_], some [_], some [_] => Nat.beq t ft && k (.ret (.aL [.aR, .int .i64 at_, .bool false])) ((((e.new (.box [.int .i64 at_])).set a (.box [.aR])).set (a + 1) (.box [.int .i64 at_])).set (a + 2) (.box [.bool false]))
   | _, _, _, _ => false
def zN (V : eX) (ev : pa) : nU := fun f args e k =>
 match V.sm f args with
 | some x => k (.ret x) e
 | none => match V.Ni f args e with
   | some (x, e') => k (.ret x) e'
   | none => match V.C.P.funcs[f]? with
     | some fn => match fn.body with
       | some c => Nat.ble args.length fn.ntmps && ev fn.ntmps (V.mu f) f .fn c (T.DK args 0 .e) e (J6 V.C.P fn k)
       | none => false
     | none => false
def RX (e : ES) : ES := ((e.new (.box [.aR])).new (.box [.int .i64 0])).new (.box [.bool false])
def nW (V : eX) (ev : pa) : nU := fun f args e k =>
 cond (V.tr f) (match args with
  | [_, .func (.func g) first cap] => cX V.C.P g && zN V ev g (first ++ cap) (RX e) (B4 V.ft e.n k)
  | _ => false) (zN V ev f args e k)
def endRound (o : Nat) (k : KR) : KC := fun ex _ e => match (bj e).loop o with
 | some L => match ex with
   | .normal => k (.ret (.bool true)) (e.set o (.loop { L with state := .ready, dN := none }))
   | .ret => k (.ret (.bool false)) (e.set o (.loop { L with state := .done, dN := some .ret }))
   | .exit id => k (.ret (.bool false)) (e.set o (.loop { L with state := .done, dN := some (.exit id) }))
   | .panic _ => false
 | none => false
def isReady : LoopState -> Bool
 | .ready => true
 | _ => false
def GZ : LoopState -> Bool
 | .busy => true
 | _ => false
def mX (f : Nat -> AV) : Nat -> T AV -> T AV
 | 0, t => t
 | n + 1, t => mX f n (t.set n (some (f n)))
def qZ (V : eX) (ev : pa) : nU := fun o args e k =>
 match (bj e).loop o with
 | some L => Nat.beq args.length L.params.size && L.params.toList.all (fun t => Nat.blt t L.nt) &&
   ev L.nt (V.mu L.tag) L.tag (.round o) L.assign (mX (rT L.ρ L.params.toList args) L.nt .e) e (fun ex ρ e => match ex with
    | .normal => match (bj e).loop o with
      | some L' => isReady L'.state && ev L.nt (V.mu L.tag) L.tag (.round o) L.body ρ (e.set o (.loop { L' with state := .busy })) (endRound o k)
      | none => false
    | _ => false)
 | none => false
def Ay (o : Nat) (ρ : T AV) (k : KC) : KR
 | .ret _, e => match (bj e).loop o with
   | some L => !GZ L.state && (match L.dN with
     | none => k .normal ρ (e.del o)
     | some .ret => k .ret ρ (e.del o)
     | some (.exit id) => k (.exit id) ρ (e.del o)
     | _ => false)
   | none => false
 | .panic x, e => k (.panic x) .e e
def KG (V : eX) (ops : Array Oper) (B : List Nat) (I : jD) (ρ : T AV) (e : ES) (k : T AV -> ES -> Bool) : Bool := match (dt ρ).get I.m with
 | .mp id => (match (bj e).mp id with | some ([], []) => true | _ => false) && (B.all (fun b => !Nat.beq b id) && k ρ (e.set id (.mp (k9 I.kk (jB V.C ops (dt ρ) I) ([], [])).1 (k9 I.kk (jB V.C ops (dt ρ) I) ([], [])).2)))
 | _ => false
def jK (V : eX) : Nat -> pa
 | 0 => fun _ _ _ _ _ _ _ _ => false
 | n + 1 => fun nt mu tag ro c ρ e k =>
   match c with
   | .skip => k .normal ρ e
   | .exit id => k (.exit id) ρ e
   | .ret => k .ret ρ e
   | .seq a b => jK V n nt mu tag ro a ρ e fun ex ρ e => match ex with
     | .normal => jK V n nt mu tag ro b ρ e k
     | ex => k ex ρ e
   | .cond x a b => match (dt ρ).ev V.C x with
     | .bool true => jK V n nt mu tag ro a ρ e k
     | .bool false => jK V n nt mu tag ro b ρ e k
     | _ => false
   | .block id a => jK V n nt mu tag ro a ρ e fun ex ρ e => match ex with
     | .exit uU => cond (Nat.beq uU id) (k .normal ρ e) (k (.exit uU) ρ e)
     | ex => k ex ρ e
   | .loop a => jK V n nt mu tag ro a ρ e fun ex ρ e => match ex with
     | .normal => jK V n nt mu tag ro (.loop a) ρ e k
     | ex => k ex ρ e
   | .region _ ops false => jk nt ops && wx V (nW V (jK V n)) (qZ V (jK V n)) mu ops ops.toList ρ e (fun ρ e => k .normal ρ e) (fun x e => k (.panic x) .e e)
   | .region id ops true => match V.ins tag id with
     | none => jk nt ops && (fS ops (tB V ops ops.size (Array.replicate ops.size false)) (Array.replicate ops.size false) && ((tB V ops ops.size (Array.replicate ops.size false)).length == ops.size)) &&
     kU V (nW V (jK V n)) (qZ V (jK V n)) mu ops (preB V mu e ops.toList ρ []) e (tB V ops ops.size (Array.replicate ops.size false)) ρ e (fun ρ e => k .normal ρ e) (fun x e => k (.panic x) .e e)
     | some (rows, ct, I, post) => jk nt ops && (vL V.C.P ops rows ct I post && kU V (nW V (jK V n)) (qZ V (jK V n)) mu ops (preB V mu e ops.toList ρ []) e ct ρ e (fun cO e' => KG V ops (preB V mu e ops.toList ρ []) I cO e' (fun cO e' => kU V (nW V (jK V n)) (qZ V (jK V n)) mu ops (preB V mu e ops.toList ρ []) e post cO e' (fun ρ e => k .normal ρ e) (fun x e => k (.panic x) .e e))) (fun x e => k (.panic x) .e e))
   | .rangeFunc f ps assign body => match ro, (dt ρ).ev V.C f with
     | .fn, .func (.func gd) first cap => cX V.C.P gd && nW V (jK V n) gd (first ++ [.nB e.n] ++ cap) (e.new (.loop ⟨(dt ρ).get, nt, ps, assign, body, .ready, none, tag⟩)) (Ay e.n ρ k)
     | _, _ => false
   | _ => false
def kR (k : KR) : cm -> St -> Prop := fun r U => ∃ e, U = bj e /\ k r e = true
def kA (k : AV -> ES -> Bool) : AV -> St -> Prop := fun v U => ∃ e, U = bj e /\ k v e = true
def kE (k : T AV -> ES -> Bool) : Env -> St -> Prop := fun ρ U => ∃ t e, ρ = dt t /\ U = bj e /\ k t e = true
def kC (k : KC) : Ex -> Env -> St -> Prop
 | .panic x, _, U => ∃ e, U = bj e /\ k (.panic x) .e e = true
 | ex, ρ, U => ∃ t e, ρ = dt t /\ U = bj e /\ k ex t e = true
def B5 (ft : TypeId) (a b c : Nat) (R : cm -> St -> Prop) : cm -> St -> Prop
 | .ret v, U => v.scalar = true /\ (∃ x, U.box a = some [x]) /\ (∃ x, U.box b = some [x]) /\ (∃ x, U.box c = some [x]) /\ R (.ret (.aL [v, .int .i64 0, .bool true])) (((U.bC a [v]).bC b [.int .i64 0]).bC c [.bool true])
 | .panic x, U => ∃ at_, x = .iface ft (.agg [.int .i64 at_]) /\ (∃ x, U.box a = some [x]) /\ (∃ x, U.box b = some [x]) /\ (∃ x, U.box c = some [x]) /\
    ∀ q, U.cj q -> R (.ret (.aL [.aR, .int .i64 at_, .bool false])) ((((U.new q (.box [.int .i64 at_])).bC a [.aR]).bC b [.int .i64 at_]).bC c [.bool false])
def C3 (C : bQ) (ft : TypeId) (f : Nat) : Prop := ∀ r g first cap U R, cX C.P g = true ->
 (∀ a b c, U.cj a -> (U.new a (.box [.aR])).cj b -> ((U.new a (.box [.aR])).new b (.box [.int .i64 0])).cj c ->
   ae C g (first ++ cap) (((U.new a (.box [.aR])).new b (.box [.int .i64 0])).new c (.box [.bool false])) (B5 ft a b c R)) -> ae C f [r, .func (.func g) first cap] U R
structure mM (V : eX) : Prop where
 sm : ∀ f args x, V.sm f args = some x -> Pure V.C f args x
 Ni : ∀ f args e x e', V.Ni f args e = some (x, e') -> ∀ R, R (.ret x) (bj e') -> ae V.C f args (bj e) R
 tr : ∀ f, V.tr f = true -> C3 V.C V.ft f
 mixed : V.C.P.follows .mixedOrders = true
def sL (V : eX) (cf : nU) : Prop := ∀ f args e k, cf f args e k = true -> ae V.C f args (bj e) (kR k)
def ug (V : eX) (cy : nU) : Prop := ∀ o args e k, cy o args e k = true -> iy V.C o args (bj e) (kR k)
def qn (V : eX) (ev : pa) : Prop := ∀ nt mu tag ro c ρ e k, ev nt mu tag ro c ρ e k = true -> aY V.C nt ro c (kC k) (dt ρ) (bj e)
theorem oq {e : ES} {b : Nat} (h : (bj e).cj b) : b = e.n := h.2 _ rfl
theorem Gb (e : ES) (d : Option Nat) : (e.nE d).n = e.n := by cases d <;> rfl
section
variable {V : eX} {cf cy : nU}
theorem vT (hf : sL V cf) (hy : ug V cy) {e : ES} {k kp : AV -> ES -> Bool} : ∀ (r : aA), uD cf cy e r k kp = true -> r.wp V.C (bj e) (kA k) (kA kp)
 | .val v, h => ⟨e, rfl, h⟩
 | .ir v b x, h => ⟨e.set b x, (jq e b x).symm, h⟩
 | .new kd del x, h => fun b hb => by
   rw [<- Jv] at hb ⊢
   have := oq hb
   rw [Gb] at this
   subst this
   exact ⟨(e.nE del).new x, by rw [mW, Gb], h⟩
 | .gT b l, h => fun p hp => by
   simp only [uD, dU] at h
   exact ⟨e.set b p.2, (jq e b p.2).symm, h p hp⟩
 | .enter f args, h => (hf f args e _ h).mono fun r U hr => by cases r <;> exact hr
 | .yield o args, h => (hy o args e _ h).mono fun r U hr => by cases r <;> exact hr
 | .panic v, h => ⟨e, rfl, h⟩
 | @aA.cond p d r, h => by
   simp only [uD, bF] at h
   exact ⟨@of_decide_eq_true p d h.1, vT hf hy r h.2⟩
 | .bad, h => by cases h
theorem NQ {ops : Array Oper} {B : List Nat} {I : jD} {k : T AV -> ES -> Bool} (ρ : T AV) (e : ES) (h : KG V ops B I ρ e k = true) : EG V.C ops B I (kE k) (dt ρ) (bj e) := by
 unfold KG at h
 split at h
 · rename_i id hid
   simp only [bF, dU, Bool.not_eq_true'] at h
   obtain ⟨h1, h2, h3⟩ := h
   split at h1
   · rename_i AX
     refine ⟨id, hid, AX, fun hm => ?_, ρ, _, rfl, (jq e id _).symm, h3⟩
     have := h2 id hm
     simp at this
   · cases h1
 · cases h
theorem vA (hf : sL V cf) (hy : ug V cy) {mu : List Nat} {ops : Array Oper} {k : T AV -> ES -> Bool} {kp : AV -> ES -> Bool} : ∀ (l : List Oper) (ρ : T AV) (e : ES), wx V cf cy mu ops l ρ e k kp = true ->
 kL V.C mu ops l (dt ρ) (bj e) (kE k) (kA kp)
 | [], ρ, e, h => ⟨ρ, e, rfl, rfl, h⟩
 | o :: rest, ρ, e, h => by
   simp only [wx] at h
   simp only [kL]
   split at h
   · rename_i hg
     rw [hg]
     refine ⟨fun _ => ?_, fun h => (by cases h)⟩
     refine aA.wp_mono ?_ _ (vT hf hy _ h)
     rintro v U ⟨e', rfl, hk⟩
     have := vA hf hy rest _ e' hk
     rw [lO] at this
     exact this
   · rename_i hg
     rw [hg]
     refine ⟨fun h => (by cases h), fun _ => ?_⟩
     have := vA hf hy rest _ e h
     rw [lO] at this
     exact this
   · cases h
theorem JQ (hV : mM V) : ∀ (r : aA) (v : AV), DW V r = some v -> r.yv V.C v
 | .val u, v, h => by simp only [DW, fy] at h; exact h
 | @aA.cond p d r, v, h => by
   simp only [DW] at h
   cases hd : @decide p d with
   | false => rw [hd] at h; cases h
   | true => rw [hd] at h; exact ⟨@of_decide_eq_true p d hd, JQ hV r v h⟩
 | .enter f args, v, h => hV.sm f args v h
 | .ir _ _ _, v, h => by cases h
 | .new _ _ _, v, h => by cases h
 | .gT _ _, v, h => by cases h
 | .yield _ _, v, h => by cases h
 | .panic _, v, h => by cases h
 | .bad, v, h => by cases h
theorem Lc {B : List Nat} {e0 e : ES} (h : Fm B e0 e = true) : cn B (bj e0) (bj e) := fun b hb => by
 unfold Fm at h
 rw [dU] at h
 exact Gg (h b hb)
theorem Ew {C : bQ} {B : List Nat} {ρ : Env} {op : Op} (h : x7 C B ρ op = true) : ∀ x ∈ op.operands.toList, ∀ b ∈ cQ (ρ.ev C x), b ∈ B := fun x hx b hb => by
 unfold x7 at h
 rw [dU] at h
 have := h x hx
 rw [dU] at this
 have := this b hb
 rw [List.any_eq_true] at this
 obtain ⟨c, hc, he⟩ := this
 rw [<- dr he]; exact hc
theorem jU (hV : mM V) (hf : sL V cf) (hy : ug V cy) {mu : List Nat} {ops : Array Oper} {B : List Nat} {e0 : ES} {k : T AV -> ES -> Bool} {kp : AV -> ES -> Bool} : ∀ (l : List (Bool × Nat)) (ρ : T AV) (e : ES), kU V cf cy mu ops B e0 l ρ e k kp = true ->
 jl V.C mu ops B (bj e0) (kE k) (kA kp) l (dt ρ) (bj e)
 | [], ρ, e, h => ⟨ρ, e, rfl, rfl, h⟩
 | (true, i) :: r, ρ, e, h => by
   simp only [kU] at h
   split at h
   · cases h
   · rename_i o ho
     split at h
     · rename_i hg
       simp only [bF, gM, Bool.not_eq_true'] at h
       obtain ⟨⟨h1, h2⟩, h3⟩ := h
       split at h3
       · rename_i v hv
         refine ⟨o, v, ho, .inl ⟨hg, h1, fun A9 => ?_, JQ hV _ _ hv⟩, ?_⟩
         · rcases h2 with h2 | h2
           · rw [A9] at h2; cases h2
           · exact Ew h2
         · have := jU hV hf hy r _ e h3
           rw [lO] at this
           exact this
       · cases h3
     · rename_i hg
       refine ⟨o, .aL [], ho, .inr ⟨hg, rfl⟩, ?_⟩
       have := jU hV hf hy r _ e h
       rw [lO] at this
       exact this
     · cases h
 | (false, i) :: r, ρ, e, h => by
   simp only [kU] at h
   simp only [jl, kB]
   split at h
   · cases h
   · rename_i o ho
     try rw [ho]
     try dsimp only
     split at h
     · rename_i hg
       rw [hg]
       refine ⟨fun _ => ?_, fun h => (by cases h)⟩
       refine aA.wp_mono ?_ _ (vT hf hy _ h)
       rintro v U ⟨e', rfl, hk⟩
       simp only [bF] at hk
       refine ⟨?_, ?_⟩
       · rw [gM] at hk
         rcases hk.1 with h | h
         · exact .inr (Lc h)
         · exact .inl h
       have := jU hV hf hy r _ e' hk.2
       rw [lO] at this
       exact this
     · rename_i hg
       rw [hg]
       refine ⟨fun h => (by cases h), fun _ => ?_⟩
       have := jU hV hf hy r _ e h
       rw [lO] at this
       exact this
     · cases h
theorem pG {C : bQ} {mu : List Nat} {ops : Array Oper} {K K' : Env -> St -> Prop} {Kp wc : AV -> St -> Prop} (hk : ∀ ρ U, K ρ U -> K' ρ U) (hp : ∀ v U, Kp v U -> wc v U) : ∀ (l : List Oper) {ρ : Env} {U : St}, kL C mu ops l ρ U K Kp -> kL C mu ops l ρ U K' wc
 | [], _, _, h => hk _ _ h
 | o :: rest, ρ, U, h => by
   simp only [kL] at h ⊢
   have Zr : ∀ (r : aA) {U : St} {X : AV -> St -> Prop}, r.wp C U X Kp -> r.wp C U X wc := fun r => by
    induction r with
    | val _ => exact fun h => h
    | ir _ _ _ => exact fun h => h
    | new _ _ _ => exact fun h => h
    | gT _ _ => exact fun h => h
    | enter f args => exact fun h => h.mono fun r U hr => by cases r <;> first | exact hr | exact hp _ _ hr
    | yield o args => exact fun h => h.mono fun r U hr => by cases r <;> first | exact hr | exact hp _ _ hr
    | panic v => exact fun h => hp _ _ h
    | cond p r ih => exact fun h => ⟨h.1, ih h.2⟩
    | bad => exact fun h => h
   cases hg : eQ ops ρ o.guard <;> rw [hg] at h <;> simp only [ay] at h ⊢
   exact ⟨fun e => aA.wp_mono (fun v U hv => pG hk hp rest hv) _ (Zr _ (h.1 e)), fun e => pG hk hp rest (h.2 e)⟩
theorem KV {P : Program} {ty : TypeId} {p v : AV} {U : St} (h : EY P ty p U = some v) {k : AV -> Prop} (hk : k v) : uy P ty p U k := by
 unfold EY at h
 unfold uy
 split at h
 · rename_i u hu
   cases h
   first | exact hk | (rw [hu]; exact hk)
 · rename_i q d u hu
   cases hd : @decide q d with
   | false => rw [hd] at h; cases h
   | true =>
     rw [hd] at h; cases h
     first | exact ⟨@of_decide_eq_true q d hd, hk⟩ | (rw [hu]; exact ⟨@of_decide_eq_true q d hd, hk⟩)
 · cases h
theorem uC {P : Program} {ρ : Env} {U : St} : ∀ (rs : List ResultVar) (vs : List AV) (k : List AV -> Prop), vR P ρ U rs = some vs -> k vs -> p7 P ρ U rs k
 | [], vs, k, h, hk => by simp only [vR, fy] at h; subst h; exact hk
 | .tmp t :: rs, vs, k, h, hk => by
   simp only [vR, kN] at h
   obtain ⟨us, hu, rfl⟩ := h
   exact uC rs us _ hu hk
 | .cell t ty :: rs, vs, k, h, hk => by
   simp only [vR] at h
   split at h
   · rename_i v hv
     simp only [kN] at h
     obtain ⟨us, hu, rfl⟩ := h
     exact KV hv (uC rs us _ hu hk)
   · cases h
theorem Aq (hV : mM V) {ev : pa} (he : qn V ev) : sL V (zN V ev) := fun f args e k h => by
 simp only [zN] at h
 split at h
 · rename_i x hx
   exact hV.sm f args x hx _ _ ⟨e, rfl, h⟩
 · split at h
   · rename_i x e' hx
     exact hV.Ni f args e x e' hx _ ⟨e', rfl, h⟩
   · split at h
     · rename_i fn hfn
       split at h
       · rename_i c hc
         simp only [bF] at h
         refine ae.DL hfn hc (Nat.le_of_ble_eq_true h.1) ?_
         have := he _ _ _ _ _ _ _ _ h.2
         rw [Ed] at this
         refine this.mono ?_
         intro ex ρ U hc
         cases ex with
         | normal =>
           obtain ⟨t, e', rfl, rfl, hk⟩ := hc
           simp only [J6] at hk
           split at hk
           · rename_i vs tq
             exact uC _ vs _ tq ⟨_, _, jQ.refl _ _, e', rfl, hk⟩
           · cases hk
         | ret =>
           obtain ⟨t, e', rfl, rfl, hk⟩ := hc
           simp only [J6] at hk
           split at hk
           · rename_i vs tq
             exact uC _ vs _ tq ⟨_, _, jQ.refl _ _, e', rfl, hk⟩
           · cases hk
         | panic x =>
           obtain ⟨e', rfl, hk⟩ := hc
           exact ⟨e', rfl, hk⟩
         | exit id =>
           obtain ⟨t, e', rfl, rfl, hk⟩ := hc
           cases hk
       · cases h
     · cases h
theorem jC (e : ES) (b : Nat) (l : List AV) : (bj e).bC b l = bj (e.set b (.box l)) := (jq e b _).symm
theorem Ar (hV : mM V) {ev : pa} (he : qn V ev) : sL V (nW V ev) := fun f args e k h => by
 simp only [nW] at h
 cases GN : V.tr f with
 | false => rw [GN] at h; exact Aq hV he f args e k h
 | true =>
   rw [GN] at h
   simp only [cond_true] at h
   split at h
   · rename_i r g first cap
     rw [bF] at h
     obtain ⟨oF, h⟩ := h
     refine hV.tr f GN r g first cap _ _ oF fun a b c ha hb hc => ?_
     have ea := oq ha
     subst ea
     rw [<- mW] at hb hc ⊢
     have eb := oq hb
     subst eb
     rw [<- mW] at hc ⊢
     have ec := oq hc
     subst ec
     rw [<- mW]
     refine (Aq hV he g _ _ _ h).mono ?_
     rintro r U ⟨e', rfl, hk⟩
     cases r with
     | ret v =>
       simp only [B4] at hk
       split at hk
       · rename_i x y z h1 h2 h3
         rw [bF] at hk
         refine ⟨hk.1, ⟨x, h1⟩, ⟨y, h2⟩, ⟨z, h3⟩, ?_⟩
         rw [jC, jC, jC]
         exact ⟨_, rfl, hk.2⟩
       · cases hk
     | panic x =>
       simp only [B4] at hk
       split at hk
       · rename_i t at_ x y z h1 h2 h3
         simp only [bF] at hk
         have ht := dr hk.1
         subst ht
         refine ⟨at_, rfl, ⟨x, h1⟩, ⟨y, h2⟩, ⟨z, h3⟩, fun q hq => ?_⟩
         have eq := oq hq
         subst eq
         rw [<- mW, jC, jC, jC]
         exact ⟨_, rfl, hk.2⟩
       · cases hk
   · cases h
theorem o1 (f : Nat -> AV) : ∀ (n : Nat) (t : T AV) (i : Nat), (mX f n t).get i = if i < n then some (f i) else t.get i
 | 0, t, i => by simp [mX]
 | n + 1, t, i => by
   simp only [mX]
   rw [o1 f n, T.ot]
   by_cases h : i < n
   · rw [if_pos h, if_pos (by omega)]
   · rw [if_neg h]
     by_cases e : i = n
     · subst e; simp
     · rw [if_neg e, if_neg (by omega)]
end
end Go.Rip
namespace Go.Rip
open Go.RowKit
theorem aY.env {C : bQ} {nt : Nat} {ro : Ro} {c : Code} {Q : Ex -> Env -> St -> Prop} {ρ cO : Env} {U : St} (h1 : ∀ t, t < nt -> cO.get t = ρ.get t) (h2 : ∀ t, nt <= t -> cO.get t = .aL []) (h : aY C nt ro c Q cO U) : aY C nt ro c Q ρ U := by
 intro g w a fr k1 k2 k3 k4 k5
 refine h g w a fr k1 k2 (fun t => ?_) k4 k5
 by_cases ht : t < nt
 · rw [h1 t ht]; exact k3 t
 · rw [h2 t (by omega)]
   have : a.tmps.getD t undef = undef := by
    rw [Array.getD_eq_getD_getElem?, rX (by omega)]; rfl
   rw [this]; exact pL
section
variable {V : eX}
theorem JP (hV : mM V) {ev : pa} (he : qn V ev) : ug V (qZ V ev) := fun o args e k h => by
 simp only [qZ] at h
 split at h
 · rename_i L hL
   simp only [bF] at h
   obtain ⟨⟨h1, h2⟩, h3⟩ := h
   refine iy.BD hL (dr h1) (fun t ht => ?_) ?_
   · rw [dU] at h2
     have := h2 t ht
     simpa [Nat.blt_eq] using this
   · have h4 := he _ _ _ _ _ _ _ _ h3
     refine aY.env (cO := dt (mX (rT L.ρ L.params.toList args) L.nt .e)) (fun t ht => ?_) (fun t ht => ?_) ?_
     · simp only [dt]; rw [o1, if_pos ht]; rfl
     · simp only [dt]; rw [o1, if_neg (by omega)]; rfl
     · refine h4.mono ?_
       intro ex ρ U hc
       cases ex with
       | normal =>
         obtain ⟨t, e', rfl, rfl, hk⟩ := hc
         dsimp only at hk
         split at hk
         · rename_i L' Dh
           simp only [bF] at hk
           refine ⟨L', Dh, ?_, ?_⟩
           · have := hk.1
             cases hs : L'.state <;> rw [hs] at this <;> first
              | rfl
              | (simp [isReady] at this)
           · have h5 := he _ _ _ _ _ _ _ _ hk.2
             rw [jq] at h5
             refine h5.mono ?_
             intro ex ρ U uR
             cases ex with
             | normal =>
               obtain ⟨t', e2, rfl, rfl, er⟩ := uR
               simp only [endRound] at er
               split at er
               · rename_i L2 Gs; exact ⟨L2, Gs, _, (jq _ _ _).symm, er⟩
               · cases er
             | ret =>
               obtain ⟨t', e2, rfl, rfl, er⟩ := uR
               simp only [endRound] at er
               split at er
               · rename_i L2 Gs; exact ⟨L2, Gs, _, (jq _ _ _).symm, er⟩
               · cases er
             | exit id =>
               obtain ⟨t', e2, rfl, rfl, er⟩ := uR
               simp only [endRound] at er
               split at er
               · rename_i L2 Gs; exact ⟨L2, Gs, _, (jq _ _ _).symm, er⟩
               · cases er
             | panic x =>
               obtain ⟨e2, rfl, er⟩ := uR
               simp only [endRound] at er
               split at er <;> cases er
         · cases hk
       | exit id => obtain ⟨t, e', rfl, rfl, hk⟩ := hc; cases hk
       | ret => obtain ⟨t, e', rfl, rfl, hk⟩ := hc; cases hk
       | panic x => obtain ⟨e', rfl, hk⟩ := hc; cases hk
 · cases h
theorem Kc (hV : mM V) (n : Nat) (Vh : ∀ m, m < n -> qn V (jK V m)) : qn V (jK V n) := by
 cases n with
 | zero => intro nt mu tag ro c ρ e k h; cases h
 | succ n =>
   intro nt mu tag ro c ρ e k h
   have ih := Vh n (Nat.lt_succ_self n)
   have hf := Ar hV ih
   have hy := JP hV ih
   by_cases hl : ∃ a, c = .loop a
   · obtain ⟨a, rfl⟩ := hl
     refine aY.loop (fun j ρ U => j <= n + 1 /\ ∃ t e, ρ = dt t /\ U = bj e /\ jK V j nt mu tag ro (.loop a) t e k = true) (n := n + 1) ⟨cA _, ρ, e, rfl, rfl, h⟩ ?_
     rintro j cO ad ⟨hj, t, e', rfl, rfl, hk⟩
     cases j with
     | zero => cases hk
     | succ j =>
       simp only [jK] at hk
       refine (Vh j (by omega) _ _ _ _ _ _ _ _ hk).mono ?_
       intro ex nC bN hc
       cases ex with
       | normal =>
         obtain ⟨t2, e2, rfl, rfl, er⟩ := hc
         exact ⟨j, Nat.lt_succ_self j, by omega, t2, e2, rfl, rfl, er⟩
       | exit id => exact hc
       | ret => exact hc
       | panic x => exact hc
   simp only [jK] at h
   split at h
   · exact aY.skip ⟨ρ, e, rfl, rfl, h⟩
   · exact aY.exit ⟨ρ, e, rfl, rfl, h⟩
   · exact aY.ret ⟨ρ, e, rfl, rfl, h⟩
   · rename_i a b
     refine aY.seq ((ih _ _ _ _ _ _ _ _ h).mono ?_)
     intro ex cO ad hc
     cases ex with
     | normal =>
       obtain ⟨t, e', rfl, rfl, hk⟩ := hc
       exact ih _ _ _ _ _ _ _ _ hk
     | exit id => exact hc
     | ret => exact hc
     | panic x => exact hc
   · rename_i x a b
     split at h
     · rename_i hc; exact aY.Tl hc (ih _ _ _ _ _ _ _ _ h)
     · rename_i hc; exact aY.Tj hc (ih _ _ _ _ _ _ _ _ h)
     · cases h
   · rename_i id a
     refine aY.block ((ih _ _ _ _ _ _ _ _ h).mono ?_)
     intro ex cO ad hc
     cases ex with
     | normal => exact hc
     | exit uU =>
       obtain ⟨t, e', rfl, rfl, hk⟩ := hc
       simp only [sT]
       dsimp only at hk
       split
       · rename_i hid
         subst hid
         rw [Nat.beq_refl, cond_true] at hk
         exact ⟨t, e', rfl, rfl, hk⟩
       · rename_i hid
         rw [tC hid, cond_false] at hk
         exact ⟨t, e', rfl, rfl, hk⟩
     | ret => exact hc
     | panic x => exact hc
   · rename_i a
     exact (hl ⟨a, rfl⟩).elim
   · rename_i id ops
     simp only [bF] at h
     refine aY.region mu h.1 (pG ?_ ?_ _ (vA hf hy _ _ _ h.2))
     · rintro cO ad ⟨t, e', rfl, rfl, hk⟩
       exact ⟨t, e', rfl, rfl, hk⟩
     · rintro v ad ⟨e', rfl, hk⟩ cO
       exact ⟨e', rfl, hk⟩
   · rename_i id ops
     split at h
     · simp only [bF] at h
       refine aY.r9 mu _ _ hV.mixed h.1.1 (by rw [bF]; exact h.1.2) (gm ?_ ?_ _ (jU hV hf hy _ _ _ h.2))
       · rintro cO ad ⟨t, e', rfl, rfl, hk⟩
         exact ⟨t, e', rfl, rfl, hk⟩
       · rintro v ad ⟨e', rfl, hk⟩ cO
         exact ⟨e', rfl, hk⟩
     · rename_i rows ct I post _
       simp only [bF] at h
       have US : ∀ v U, kA (fun x e => k (.panic x) .e e) v U -> sN (kC k) v U := by
        rintro v ad ⟨e', rfl, hk⟩ cO
        exact ⟨e', rfl, hk⟩
       refine aY.HE (B := preB V mu e ops.toList ρ []) (mu := mu) ct I post hV.mixed h.1 (CR h.2.1) (gm ?_ US _ (jU hV hf hy _ _ _ h.2.2))
       rintro cO ad ⟨t, e', rfl, rfl, hk⟩
       obtain ⟨uU, q1, q2, q3, t2, e2, q4, q5, q6⟩ := NQ t e' hk
       refine ⟨uU, q1, q2, q3, ?_⟩
       have key := gm (K' := KQ (kC k)) (by
        rintro nC bN ⟨t3, e3, rfl, rfl, hk⟩
        exact ⟨t3, e3, rfl, rfl, hk⟩) US _ (jU hV hf hy _ _ _ q6)
       rw [<- q4, <- q5] at key
       exact key
   · rename_i f ps assign body
     split at h
     · rename_i gd first cap hfn
       simp only [bF] at h
       refine aY.rangeFunc tag hfn h.1 fun o ho => ?_
       have := oq ho
       subst this
       rw [<- mW]
       refine (hf _ _ _ _ h.2).mono ?_
       rintro r U ⟨e', rfl, hk⟩
       cases r with
       | ret v =>
         simp only [Ay] at hk
         split at hk
         · rename_i L hL
           simp only [bF, Bool.not_eq_true'] at hk
           refine ⟨L, hL, fun hb => ?_, ?_⟩
           · rw [hb] at hk; simp [GZ] at hk
           · have er := hk.2
             rw [<- vW]
             split at er
             · rename_i hp; try rw [hp]
               exact ⟨_, _, rfl, rfl, er⟩
             · rename_i hp; try rw [hp]
               exact ⟨_, _, rfl, rfl, er⟩
             · rename_i id hp; try rw [hp]
               exact ⟨_, _, rfl, rfl, er⟩
             · cases er
         · cases hk
       | panic x => exact ⟨e', rfl, hk⟩
     · cases h
   · cases h
theorem PZ (hV : mM V) (n : Nat) : qn V (jK V n) := by
 induction n using Nat.strongRecOn with
 | _ n ih => exact Kc hV n ih
theorem P0 {V : eX} (hV : mM V) (n f : Nat) (args : List AV) (e : ES) (k : KR) (h : nW V (jK V n) f args e k = true) : ae V.C f args (bj e) (kR k) := Ar hV (PZ hV n) f args e k h
end
end Go.Rip
namespace Go.Rip
open Go.RowKit
mutual
def closed : AV -> Bool
 | .box _ _ | .ms _ _ _ _ _ | .mp _ | .nB _ | .it _ => false
 | .vec _ (.own _) _ => false
 | .vec _ _ l => bH l
 | .bL l => bH l
 | .dL ks vs => bH ks && bH vs
 | .func _ a b => bH a && bH b
 | .iface _ v => closed v
 | .agg l => bH l
 | .aL l => bH l
 | _ => true
def bH : List AV -> Bool
 | [] => true
 | x :: xs => closed x && bH xs
end
mutual
theorem ak.closed {g g' : Gh} (hi : ∀ b o x, g.bq b o = some x -> g'.bq b o = some x) (hm : ∀ b x, g.bg b = some x -> g'.bg b = some x) : ∀ (x : AV) (v : Value), closed x = true -> ak g x v -> ak g' x v
 | .bool _, _, _, hr => hr
 | .int _ _, _, _, hr => hr
 | .str _, _, _, hr => hr
 | .aR, _, _, hr => hr
 | .aq, _, _, hr => hr
 | .iK, _, _, hr => hr
 | .cx, _, _, hr => hr
 | .cg, _, _, hr => hr
 | .box _ _, _, hc, _ => by cases hc
 | .ms _ _ _ _ _, _, hc, _ => by cases hc
 | .mp _, _, hc, _ => by cases hc
 | .nB _, _, hc, _ => by cases hc
 | .it _, _, hc, _ => by cases hc
 | .bL l, _, hc, hr => by
   simp only [ak] at hr ⊢
   obtain ⟨ax, off, vs, hv, h1, h2⟩ := hr
   exact ⟨ax, off, vs, hv, fun i u hu => hi _ _ _ (h1 i u hu), ar.closed hi hm l vs hc h2⟩
 | .vec n cap l, _, hc, hr => by
   simp only [ak] at hr ⊢
   obtain ⟨ax, off, c, vs, hv, h1, h2, h3, h4, h5⟩ := hr
   cases cap with
   | own τ => cases hc
   | full => exact ⟨ax, off, c, vs, hv, h1, h2, h3, fun i u hu => hi _ _ _ (h4 i u hu), ar.closed hi hm l vs hc h5⟩
   | gq => exact ⟨ax, off, c, vs, hv, h1, h2, trivial, fun i u hu => hi _ _ _ (h4 i u hu), ar.closed hi hm l vs hc h5⟩
 | .dL ks vs, _, hc, hr => by
   simp only [ak] at hr ⊢
   simp only [Go.Rip.closed, bF] at hc
   obtain ⟨r, es, c, l, hv, he, hp, hs, h1, h2⟩ := hr
   exact ⟨r, es, c, l, hv, hm _ _ he, hp, hs, ar.closed hi hm ks _ hc.1 h1, ar.closed hi hm vs _ hc.2 h2⟩
 | .func fn first captured, _, hc, hr => by
   simp only [ak] at hr ⊢
   simp only [Go.Rip.closed, bF] at hc
   obtain ⟨fs, cs, hv, h1, h2⟩ := hr
   exact ⟨fs, cs, hv, ar.closed hi hm first _ hc.1 h1, ar.closed hi hm captured _ hc.2 h2⟩
 | .iface t x, _, hc, hr => by
   simp only [ak] at hr ⊢
   obtain ⟨u, hv, h1⟩ := hr
   exact ⟨u, hv, ak.closed hi hm x _ hc h1⟩
 | .agg l, _, hc, hr => by
   simp only [ak] at hr ⊢
   obtain ⟨vs, hv, h0, h1⟩ := hr
   exact ⟨vs, hv, h0, ar.closed hi hm l _ hc h1⟩
 | .aL l, _, hc, hr => by
   simp only [ak] at hr ⊢
   obtain ⟨vs, hv, h1⟩ := hr
   exact ⟨vs, hv, ar.closed hi hm l _ hc h1⟩
 | .any, _, _, _ => by simp only [ak]
theorem ar.closed {g g' : Gh} (hi : ∀ b o x, g.bq b o = some x -> g'.bq b o = some x) (hm : ∀ b x, g.bg b = some x -> g'.bg b = some x) : ∀ (l : List AV) (vs : List Value), bH l = true -> ar g l vs -> ar g' l vs
 | [], _, _, hr => by simpa only [ar] using hr
 | x :: xs, _, hc, hr => by
   simp only [ar] at hr ⊢
   simp only [bH, bF] at hc
   obtain ⟨u, us, hv, h1, h2⟩ := hr
   exact ⟨u, us, hv, ak.closed hi hm x _ hc.1 h1, ar.closed hi hm xs _ hc.2 h2⟩
end
def resolve : Nat -> St -> AV -> AV
 | 0, _, _ => .any
 | n + 1, U, x => match x with
   | .box b off => match U.box b with
     | some l => .bL ((l.map (resolve n U)).drop off)
     | none => .any
   | .ms b off k _ _ => match U.box b with
     | some l => .vec k .gq ((l.map (resolve n U)).drop off)
     | none => .any
   | .mp m => match U.mp m with
     | some (ks, vs) => .dL ks (vs.map (resolve n U))
     | none => .any
   | .vec k .full l => .vec k .full (l.map (resolve n U))
   | .vec k _ l => .vec k .gq (l.map (resolve n U))
   | .bL l => .bL (l.map (resolve n U))
   | .dL ks vs => .dL ks (vs.map (resolve n U))
   | .func f a b => .func f (a.map (resolve n U)) (b.map (resolve n U))
   | .iface t v => .iface t (resolve n U v)
   | .agg l => .agg (l.map (resolve n U))
   | .aL l => .aL (l.map (resolve n U))
   | .nB _ | .it _ => .any
   | x => x
noncomputable def Gh.all (g : Gh) (w : World) : Gh :=
 { g with
  bq := fun q o => if g.base <= q then (match w.cell? ⟨q, o, none⟩ with | some u => if u.oneCell' = true then some u else none | none => none) else g.bq q o
  bg := fun q => if g.base <= q then (match w.heap[q]? with | some (.map es c) => if h : (open Classical in decide (gx es c)) = true then some (es, c) else none | _ => none) else g.bg q }
theorem C4 {g : Gh} {w : World} {q o : Nat} {u : Value} (hq : g.base <= q) (hc : w.cell? ⟨q, o, none⟩ = some u) (h1 : u.oneCell' = true) : (g.all w).bq q o = some u := by
 show (if _ then _ else _) = _
 rw [if_pos hq, hc]; simp [h1]
theorem Ag {g : Gh} {w : World} {q : Nat} {es : Array MapEntry} {c : Nat} (hq : g.base <= q) (hc : w.heap[q]? = some (.map es c)) (h1 : gx es c) : (g.all w).bg q = some (es, c) := by
 show (if _ then _ else _) = _
 rw [if_pos hq, hc]; simp [h1]
theorem aQ.wR {g : Gh} {U : St} {w : World} (h : aQ g U w) : Gh.Le g (g.all w) := by
 refine ⟨rfl, rfl, fun _ _ h => h, fun b o x hx => ?_, fun b x hx => ?_, fun _ h => h, fun b o hb => ?_, fun b hb => ?_⟩
 · by_cases hq : g.base <= b
   · exact C4 hq (h.bq _ _ _ hx).1 (h.bq _ _ _ hx).2
   · show (if _ then _ else _) = _
     rw [if_neg hq]; exact hx
 · by_cases hq : g.base <= b
   · exact Ag hq (h.bg _ _ _ hx).1 (h.bg _ _ _ hx).2
   · show (if _ then _ else _) = _
     rw [if_neg hq]; exact hx
 · show (if _ then _ else _) = _
   rw [if_neg (by omega)]
 · show (if _ then _ else _) = _
   rw [if_neg (by omega)]
theorem rh {g : Gh} {U : St} {w : World} (h : aQ g U w) (q o : Nat) (u : Value) (hu : (g.all w).bq q o = some u) : w.cell? ⟨q, o, none⟩ = some u /\ u.oneCell' = true := by
 have hu : (if g.base <= q then (match w.cell? ⟨q, o, none⟩ with | some u => if u.oneCell' = true then some u else none | none => none) else g.bq q o) = some u := hu
 split at hu
 · split at hu
   · rename_i x hx
     split at hu
     · cases hu; exact ⟨hx, by assumption⟩
     · cases hu
   · cases hu
 · exact h.bq _ _ _ hu
theorem pQ {g : Gh} {U : St} {w : World} (h : aQ g U w) (q : Nat) (es : Array MapEntry) (c : Nat) (hu : (g.all w).bg q = some (es, c)) : w.heap[q]? = some (.map es c) /\ gx es c := by
 have hu : (if g.base <= q then (match w.heap[q]? with | some (.map es c) => if h : (open Classical in decide (gx es c)) = true then some (es, c) else none | _ => none) else g.bg q) = some (es, c) := hu
 split at hu
 · split at hu
   · rename_i qs c' hx
     split at hu
     · rename_i hb
       cases hu; exact ⟨hx, by simpa using hb⟩
     · cases hu
   · cases hu
 · exact h.bg _ _ _ hu
theorem vP {g g' : Gh} {f : AV -> AV} : ∀ {l : List AV} {vs : List Value}, (∀ x v, x ∈ l -> ak g x v -> ak g' (f x) v) -> ar g l vs -> ar g' (l.map f) vs
 | [], _, _, h => by simpa only [ar, iL] using h
 | x :: xs, _, hf, h => by
   simp only [ar, de] at h ⊢
   obtain ⟨u, us, hv, h1, h2⟩ := h
   exact ⟨u, us, hv, hf x u (by simp) h1, vP (fun y v hy => hf y v (by simp [hy])) h2⟩
theorem u7 {g : Gh} {U : St} {w : World} (h : aQ g U w) : ∀ (n : Nat) (x : AV) (v : Value), ak g x v -> ak (g.all w) (resolve n U x) v := by
 intro n
 induction n with
 | zero => intro x v _; simp only [resolve, ak]
 | succ n ih =>
   intro x v hr
   have hl := h.wR
   have oJ : ∀ {l : List AV} {vs : List Value}, ar g l vs -> ar (g.all w) (l.map (resolve n U)) vs := fun h => vP (fun y v _ hy => ih y v hy) h
   have hi : ∀ {ax off : Nat} {vs : List Value}, gQ g ax off vs -> gQ (g.all w) ax off vs := fun h => h.mono hl
   have box : ∀ {b off : Nat} {l : List AV} {p : Place}, U.box b = some l -> g.place b = some p -> ∃ vs, gQ (g.all w) p.ax off vs /\ ar (g.all w) ((l.map (resolve n U)).drop off) vs := fun {b off l p} hb hp => by
    obtain ⟨x', cur, vs, rest, k1, k2, k3, k4, k5, k6, k7, k8⟩ := h.box b l hb
    have k1 : g.place b = some x' := k1
    rw [hp] at k1; cases k1
    refine ⟨vs.drop off, fun i u hu => ?_, (oJ k6).drop off⟩
    rw [List.getElem?_drop] at hu
    have aH : off + i < vs.length := by
     rcases ga (off + i) vs.length with h | h
     · exact h
     · simp [rU h] at hu
    have hc : cur[off + i]? = some u := by rw [<- gE, k5, rW aH]; exact hu
    exact C4 k2 (by rw [cell_of_row _ _ _ cur p.e (0, 0) k3]; exact hc) (k7 u (fw (by rw [gE]; exact hc)))
   cases x with
   | box b off =>
     simp only [resolve]
     cases hb : U.box b with
     | none => simp only [ak]
     | some l =>
       simp only [ak] at hr ⊢
       obtain ⟨p, hp, rfl⟩ := hr
       obtain ⟨vs, h1, h2⟩ := box (off := off) hb hp
       exact ⟨p.ax, off, vs, rfl, h1, h2⟩
   | ms b off k fI e =>
     simp only [resolve]
     cases hb : U.box b with
     | none => simp only [ak]
     | some l =>
       simp only [ak] at hr ⊢
       obtain ⟨p, c, hp, rfl, q1, q2, _⟩ := hr
       obtain ⟨vs, h1, h2⟩ := box (off := off) hb hp
       exact ⟨p.ax, off, c, vs, rfl, q1, q2, trivial, h1, h2⟩
   | mp m =>
     simp only [resolve]
     cases hm : U.mp m with
     | none => simp only [ak]
     | some kv =>
       obtain ⟨ks, vs⟩ := kv
       simp only [ak] at hr ⊢
       obtain ⟨r, hr, rfl⟩ := hr
       obtain ⟨r', es, clock, q1, q2, q3, qb, ⟨l, q4, q5, q6, q7⟩, q8⟩ := h.mp m _ hm
       rw [hr] at q1; cases q1
       exact ⟨r, es, clock, l, rfl, Ag q2 q3 qb, q4, q5, q6.mono hl, oJ q7⟩
   | vec k c l =>
     simp only [ak] at hr
     obtain ⟨ax, off, c', vs, rfl, h1, h2, h3, h4, h5⟩ := hr
     cases c with
     | full => simp only [resolve, ak]; exact ⟨ax, off, c', vs, rfl, h1, h2, h3, hi h4, oJ h5⟩
     | own τ => simp only [resolve, ak]; exact ⟨ax, off, c', vs, rfl, h1, h2, trivial, hi h4, oJ h5⟩
     | gq => simp only [resolve, ak]; exact ⟨ax, off, c', vs, rfl, h1, h2, trivial, hi h4, oJ h5⟩
   | bL l =>
     simp only [resolve, ak] at hr ⊢
     obtain ⟨ax, off, vs, rfl, h1, h2⟩ := hr
     exact ⟨ax, off, vs, rfl, hi h1, oJ h2⟩
   | dL ks vs =>
     simp only [resolve, ak] at hr ⊢
     obtain ⟨r, es, c, l, rfl, he, hp, hs, h1, h2⟩ := hr
     exact ⟨r, es, c, l, rfl, hl.bg _ _ he, hp, hs, h1.mono hl, oJ h2⟩
   | func f a b =>
     simp only [resolve, ak] at hr ⊢
     obtain ⟨fs, cs, rfl, h1, h2⟩ := hr
     exact ⟨fs, cs, rfl, oJ h1, oJ h2⟩
   | iface t x =>
     simp only [resolve, ak] at hr ⊢
     obtain ⟨u, rfl, h1⟩ := hr
     exact ⟨u, rfl, ih _ _ h1⟩
   | agg l =>
     simp only [resolve, ak] at hr ⊢
     obtain ⟨vs, rfl, h0, h1⟩ := hr
     exact ⟨vs, rfl, h0, oJ h1⟩
   | aL l =>
     simp only [resolve, ak] at hr ⊢
     obtain ⟨vs, rfl, h1⟩ := hr
     exact ⟨vs, rfl, oJ h1⟩
   | nB o => simp only [resolve, ak]
   | it o => simp only [resolve, ak]
   | any => simp only [resolve, ak]
   | bool b => simp only [resolve]; exact hr.mono hl
   | int k n => simp only [resolve]; exact hr.mono hl
   | str s => simp only [resolve]; exact hr.mono hl
   | aR => simp only [resolve]; exact hr.mono hl
   | aq => simp only [resolve]; exact hr.mono hl
   | iK => simp only [resolve]; exact hr.mono hl
   | cx => simp only [resolve]; exact hr.mono hl
   | cg => simp only [resolve]; exact hr.mono hl
theorem Pure.uA {C : bQ} {f : Nat} {args : List AV} {x : AV} (wH : ∀ i, closed (C.tc i) = true) (hargs : bH args = true) (hx : closed x = true) (d : Nat)
 (h : ae C f args (bj ⟨.e, 0⟩) (fun r U => ∃ v, r = .ret v /\ resolve d U v = x)) : Pure C f args x := by
 intro U R hR g w vs hs hG ha
 let g0 : Gh := { base := w.heap.size, w0 := w, place := fun _ => none, bq := g.bq, bg := g.bg, res := fun _ => false }
 have oM : aQ g0 (bj ⟨.e, 0⟩) w := {
  below := Below.refl _ _
  le := cA _
  bq := hs.bq
  bg := hs.bg
  live := fun b x hb => by cases hb
  apart := fun b b' x x' p p' hb => by cases hb
  res := fun r hr => by cases hr
  fin := ⟨0, fun n hn => by cases hn; rfl, fun _ _ => rfl⟩ }
 have Gr : eL C g0 := ⟨fun i => ak.closed (g := g) (g' := g0) (fun _ _ _ h => h) (fun _ _ h => h) _ _ (wH i) (hG.1 i), fun i cs hi => by
  obtain ⟨k1, t, fr, k2⟩ := hG.2 i cs hi
  refine ⟨Nat.lt_of_lt_of_le k1 hs.le, t, fr, ?_⟩
  show w.heap[i]? = _
  rw [hs.below.block i k1]; exact k2⟩
 have Qb : ar g0 args vs := ar.closed (g := g) (g' := g0) (fun _ _ _ h => h) (fun _ _ h => h) _ _ hargs ha
 refine (h g0 w vs oM Gr Qb).mono ?_
 rintro e w' hp
 cases e with
 | panicked ch => obtain ⟨g', ad, y, v, _, _, _, _, z, hz, _⟩ := hp; cases hz
 | outgrown => exact hp.elim
 | returned v =>
   obtain ⟨g', ad, y, h1, h2, h3, z, hz, hres⟩ := hp
   cases hz
   have bw := u7 h2 d y v h3
   rw [hres] at bw
   have oI := h2.wR
   have hle := h1.trans oI
   have Zt : g'.base = w.heap.size := h1.base
   have rv : Below w.heap.size w w' := by
    have := h2.below
    rw [h1.base, h1.w0] at this
    exact this
   let gF : Gh := { base := g.base, w0 := g.w0, place := g.place, bq := (g'.all w').bq, bg := (g'.all w').bg, res := g.res }
   have AT : Gh.Le g gF := ⟨rfl, rfl, fun _ _ h => h, fun b o u hu => hle.bq b o u hu, fun b u hu => hle.bg b u hu, fun _ h => h,
    fun b o hb => hle.tu b o (by show b < w.heap.size; have := hs.le; omega), fun b hb => hle.qD b (by show b < w.heap.size; have := hs.le; omega)⟩
   refine ⟨gF, U, x, AT, ?_, ak.closed (g := g'.all w') (g' := gF) (fun _ _ _ h => h) (fun _ _ h => h) x v hx bw, hR⟩
   exact {
    below := hs.below.trans (rv.mono hs.le)
    le := Nat.le_trans hs.le rv.size
    bq := fun q o u hu => rh h2 q o u hu
    bg := fun q es c hu => pQ h2 q es c hu
    live := fun b l hb => by
     obtain ⟨p, k1, k2, k3⟩ := hs.live b l hb
     have aH := k3.lt
     exact ⟨p, k1, k2, k3.frame AT.r (rv.block _ aH) (fun o => hle.tu _ o aH) (hle.qD _ aH)⟩
    apart := hs.apart
    res := fun r hr => by
     obtain ⟨k1, k2⟩ := hs.res r hr
     exact ⟨k1, by rw [rv.block _ (gD.1 k2).1]; exact k2⟩
    fin := hs.fin }
def TQ (d : Nat) (x : AV) : KR
 | .ret v, e => fE (resolve d (bj e) v) x
 | .panic _, _ => false
theorem Pure.du {V : eX} (hV : mM V) (n d : Nat) {f : Nat} {args : List AV} {x : AV} (wH : ∀ i, closed (V.C.tc i) = true) (h : (bH args && closed x && nW V (jK V n) f args ⟨.e, 0⟩ (TQ d x)) = true) : Pure V.C f args x := by
 simp only [bF] at h
 refine Pure.uA wH h.1.1 h.1.2 d ((P0 hV n f args ⟨.e, 0⟩ _ h.2).mono ?_)
 rintro r U ⟨e, rfl, hk⟩
 cases r with
 | ret v => exact ⟨v, rfl, qq hk⟩
 | panic v => cases hk
end Go.Rip
namespace Go.Rip
open Go.RowKit
def Mc (R : St -> Prop) : Ex -> Env -> St -> Prop
 | .normal, _, U => R U
 | .ret, _, U => R U
 | _, _, _ => False
theorem Ot {C : bQ} {f : FuncId} {fn : Func} {id : Nat} {o : Oper} {d : Nat} {rest : Code} {args : List AV} {U : St} {g : Gh} {w : World} {vs : List Value}
 (hf : C.P.funcs[f]? = some fn) (hb : fn.body = some (.seq (.region id #[o] false) rest)) (hres : fn.results = #[]) (hop : ∀ ev w, (execOp ev o).run C.P w = .ok .recover w) (hd : o.dst = some d) (hdn : d < fn.ntmps) (hg : o.guard = none)
 (hlen : args.length <= fn.ntmps) (hs : aQ g U w) (hG : eL C g) (ha : ar g args vs) {x : AV} {v : Value} {u u' : FrameMode} (hx : ak g x v)
 (hu : (u = .returning /\ v = .nilIface /\ u' = .returning) \/ (u = .panicking [{ v, recovered := false }] /\ u' = .panicking [{ v, recovered := true }])) (R : St -> Prop)
 (h : aY C fn.ntmps .bare rest (Mc R) ((Env.fQ args).put d x) U) :
 CallsDIn Fence.wide 0 C.P f vs.toArray u w (fun e u2 w' => ∃ v', e = .returned v' /\ u2 = u' /\ ∃ g' ad, Gh.Le g g' /\ aQ g' ad w' /\ R ad) := by
 refine callsDIn_of_wpSIn hf hb trivial fun Aw cs hm => ?_
 refine wpSIn_seq (wpSIn_region ?_)
 have hl := ha.length
 have cY : (vs.toArray ++ Array.replicate (fn.ntmps - vs.toArray.size) undef).size = fn.ntmps := by simp; omega
 have x8 : eo g (Env.fQ args) (vs.toArray ++ Array.replicate (fn.ntmps - vs.toArray.size) undef) := vr args vs _ ha
 have Wd := x8.put (d := d) (by rw [cY]; exact hdn) hx
 have after : ∀ wu, (wu = { Aw with mode := u' } :: cs) -> rest.wpSIn Fence.wide 0 C.P (bodyPostS C.P fn Aw cs fun e u2 w' => ∃ v', e = .returned v' /\ u2 = u' /\ ∃ g' ad, Gh.Le g g' /\ aQ g' ad w' /\ R ad)
  (Act.put { tmps := vs.toArray ++ Array.replicate (fn.ntmps - vs.toArray.size) undef, defers := [] } o.dst v) wu w := fun wu oE => by
  refine wpSIn_of_wpIn rfl ?_
  have := h g w (Act.put { tmps := vs.toArray ++ Array.replicate (fn.ntmps - vs.toArray.size) undef, defers := [] } o.dst v) none hs hG (by rw [hd]; exact Wd) (by rw [(j0 _ _ _).2]; exact cY) trivial
  refine wpIn_mono this ?_
  rintro e a w' ⟨q1, g', ad, cO, ms, q2, q3, q4, q5, q6, q7⟩
  have pq : ms = [] := q3.none rfl
  subst pq
  rw [(j0 _ _ _).1] at q2
  simp only [iL, iN] at q2
  have hr : ∀ tmps, (results fn tmps).run C.P w' = .ok (.tuple #[]) w' := fun tmps => by
   unfold results
   rw [hres]
   simp
  cases e with
  | normal => exact ⟨q2, u', oE, _, hr _, _, rfl, rfl, g', ad, q4, q5, q7⟩
  | ret => exact ⟨q2, u', oE, _, hr _, _, rfl, rfl, g', ad, q4, q5, q7⟩
  | exit id => exact q7.elim
  | panic ch => obtain ⟨_, _, _, _, hf⟩ := q7; exact hf.elim
  | goto l => exact q7.elim
  | outgrown => exact q7.elim
 have hw : Region.wanted o (yielded #[o] (vs.toArray ++ Array.replicate (fn.ntmps - vs.toArray.size) undef)) = true := by simp [Region.wanted, hg]
 show wpOpsSIn Fence.wide 0 C.P #[o] _ [0] _ _ _
 simp only [wpOpsSIn, List.getElem?_toArray, List.getElem?_cons_zero, hw, if_true, hop]
 refine ⟨fun _ _ => trivial, ?_⟩
 rcases hu with ⟨rfl, rfl, rfl⟩ | ⟨rfl, rfl⟩
 · have e1 : recoverD (Aw :: cs) = none := by simp [recoverD, hm]
   rw [e1]
   exact after _ (by rw [<- hm])
 · have e1 : recoverD (Aw :: cs) = some (v, { Aw with mode := .panicking [{ v, recovered := true }] } :: cs) := by simp [recoverD, hm]
   rw [e1]
   exact after _ rfl
end Go.Rip
