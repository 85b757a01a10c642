/- Lemmas for the proof: no conditions. -/
import Derived.Test.YtnfpmiiopiinbaaGreatDoorRipZz
import Derived.Test.YtnfpmiiopiinbaaGreatDoorRipA
import Derived.OrdersIn
import Derived.RecoverIn
set_option linter.unusedVariables false
set_option linter.unusedSimpArgs false
set_option linter.loopingSimpArgs false
namespace Go.Rip
open Go.RowKit
inductive cS where
 | ret (x : AV)
 | panic (x : AV)
inductive Ex where
 | normal
 | exit (id : Nat)
 | ret
 | panic (x : AV)
def FW (ro : Option Nat) : Fence := { Fence.wide with round := ro }
def oo (g : Gh) (R : cS -> St -> Prop) : Ending -> World -> Prop
 | .returned v, w' => ∃ g' af x, Gh.Le g g' /\ br g' af w' /\ aB g' x v /\ R (.ret x) af
 | .panicked ch, w' => ∃ g' af x v, ch = [{ v, recovered := false }] /\ Gh.Le g g' /\ br g' af w' /\ aB g' x v /\ R (.panic x) af
 | .outgrown, _ => False
def ad (C : cV) (f : FuncId) (args : List AV) (U : St) (R : cS -> St -> Prop) : Prop :=
 ∀ g w vs, br g U w -> gZ C g -> aN g args vs -> CallsIn Fence.wide 0 C.P f (List.toArray vs) w (oo g R)
def lO (C : cV) (o : Nat) (args : List AV) (U : St) (R : cS -> St -> Prop) : Prop :=
 ∀ g w vs x, br g U w -> gZ C g -> aN g args vs -> g.place o = some x -> ∃ fn tmps assign body, (Instr.yield x.aO (List.toArray vs)).run C.P w = .ok (.round x.aO fn tmps assign body) w /\
  RoundIn Fence.wide 0 C.P x.aO fn tmps assign body w (oo g R)
theorem oo.mono {g : Gh} {R R' : cS -> St -> Prop} {e : Ending} {w : World} (h : oo g R e w) (hr : ∀ r U, R r U -> R' r U) : oo g R' e w := by
 cases e with
 | returned v => obtain ⟨g', af, x, h1, h2, h3, h4⟩ := h; exact ⟨g', af, x, h1, h2, h3, hr _ _ h4⟩
 | panicked ch => obtain ⟨g', af, x, v, h0, h1, h2, h3, h4⟩ := h; exact ⟨g', af, x, v, h0, h1, h2, h3, hr _ _ h4⟩
 | outgrown => exact h
theorem ad.mono {C : cV} {f : FuncId} {args : List AV} {U : St} {R R' : cS -> St -> Prop} (h : ad C f args U R) (hr : ∀ r U, R r U -> R' r U) : ad C f args U R' :=
 fun g w vs hs hG ha => (h g w vs hs hG ha).mono fun _ _ hp => hp.mono hr
theorem lO.mono {C : cV} {f : Nat} {args : List AV} {U : St} {R R' : cS -> St -> Prop} (h : lO C f args U R) (hr : ∀ r U, R r U -> R' r U) : lO C f args U R' :=
 fun g w vs x hs hG ha hx => let ⟨a, b, c, d, e, r⟩ := h g w vs x hs hG ha hx; ⟨a, b, c, d, e, r.mono fun _ _ hp => hp.mono hr⟩
def ai (K : AV -> St -> Prop) (Kp : AV -> St -> Prop) : cS -> St -> Prop
 | .ret x, U => K x U
 | .panic x, U => Kp x U
def aw.wp (C : cV) (U : St) (K : AV -> St -> Prop) (Kp : AV -> St -> Prop) : aw -> Prop
 | .val v => K v U
 | .kW v b x => K v (U.set b x)
 | .new k del x => ∀ b, (U.rQ del).dB b -> K (k.at b) ((U.rQ del).new b x)
 | .kP b l => ∀ p ∈ l, K p.1 (U.set b p.2)
 | .enter f args => ad C f args U (ai K Kp)
 | .yield l args => lO C l args U (ai K Kp)
 | .panic v => Kp v U
 | @aw.cond p _ r => p /\ r.wp C U K Kp
 | .bad => False
def hZ (ops : Array Oper) (ρ : Env) : Option (Nat × Bool) -> AV
 | none => .bool true
 | some (j, want) => match (ops[j]?).bind (·.dst) with
   | some d => match ρ.get d with
     | .bool b => .bool (b == want)
     | .aU [] => .bool false
     | _ => .any
   | none => .any
def ao : AV -> Prop -> Prop -> Prop
 | .bool b, A, B => (b = true -> A) /\ (b = false -> B)
 | _, _, _ => False
def oH (C : cV) (mu : List Nat) (ops : Array Oper) : List Oper -> Env -> St -> (Env -> St -> Prop) -> (AV -> St -> Prop) -> Prop
 | [], ρ, U, K, _ => K ρ U
 | o :: rest, ρ, U, K, Kp => ao (hZ ops ρ o.guard)
    ((jh C (match o.dst with | some d => mu.contains d | none => false) o.op ρ U).wp C U (fun v af => oH C mu ops rest (ρ.eI o.dst v) af K Kp) Kp)
    (oH C mu ops rest (ρ.eI o.dst (.aU [])) U K Kp)
def EB (r : Nat) : Deferred := { target := .collected r, args := #[] }
def Fj (g : Gh) (Q : Ex -> Env -> St -> Prop) (ρ : Env) (U : St) : Exit -> Prop
 | .normal => Q .normal ρ U
 | .exit id => Q (.exit id) ρ U
 | .ret => Q .ret ρ U
 | .panic ch => ∃ x v, ch = [{ v, recovered := false }] /\ aB g x v /\ Q (.panic x) ρ U
 | .goto _ => False
 | .outgrown => False
inductive Ro where
 | fn
 | bare
 | round (o : Nat)
def Ro.nm : Ro -> Bool
 | .bare => true
 | _ => false
structure od (nm : Bool) (g g' : Gh) (ms : List Nat) : Prop where
 none : nm = true -> ms = []
 nodup : ms.Nodup
 res : ∀ r ∈ ms, g'.res r = true /\ g.res r = false
theorem lg (nm : Bool) (g g' : Gh) : od nm g g' [] := ⟨fun _ => rfl, List.nodup_nil, by simp⟩
theorem od.append {nm : Bool} {g g1 g2 : Gh} {m1 m2 : List Nat} (h1 : od nm g g1 m1) (h2 : od nm g1 g2 m2) (l1 : Gh.Le g g1) (l2 : Gh.Le g1 g2) : od nm g g2 (m2 ++ m1) := by
 refine ⟨fun h => by rw [h1.none h, h2.none h]; rfl, List.nodup_append.2 ⟨h2.nodup, h1.nodup, fun x hx y hy e => ?_⟩, fun r hr => ?_⟩
 · subst e
   have := (h2.res x hx).2
   rw [(h1.res x hy).1] at this; cases this
 · simp only [gg] at hr
   rcases hr with hr | hr
   · refine ⟨(h2.res r hr).1, ?_⟩
     cases e : g.res r with
     | false => rfl
     | true => have := (h2.res r hr).2; rw [l1.res _ e] at this; cases this
   · exact ⟨l2.res _ (h1.res r hr).1, (h1.res r hr).2⟩
def qj (g : Gh) (nt : Nat) (nm : Bool) (ds : List Deferred) (Q : Ex -> Env -> St -> Prop) (e : Exit) (a : Act) (w : World) : Prop :=
 a.tmps.size = nt /\ ∃ g' U ρ ms, a.defers = ms.map EB ++ ds /\ od nm g g' ms /\ Gh.Le g g' /\ br g' U w /\ gr g' ρ a.tmps /\ Fj g' Q ρ U e
def EO (g : Gh) : Ro -> Option Nat -> Prop
 | .fn, none => True
 | .bare, none => True
 | .round o, some l => ∃ x, g.place o = some x /\ x.aO = l
 | _, _ => False
theorem EO.mono {g g' : Gh} (h : Gh.Le g g') {ro : Ro} {fr : Option Nat} (hr : EO g ro fr) : EO g' ro fr := by
 cases ro <;> cases fr <;> simp only [EO] at hr ⊢
 obtain ⟨x, h1, h2⟩ := hr
 exact ⟨x, h.place _ _ h1, h2⟩
def bO (C : cV) (nt : Nat) (ro : Ro) (c : Code) (Q : Ex -> Env -> St -> Prop) (ρ : Env) (U : St) : Prop :=
 ∀ g w a fr, br g U w -> gZ C g -> gr g ρ a.tmps -> a.tmps.size = nt -> EO g ro fr -> c.wpIn (FW fr) 0 C.P (qj g nt ro.nm a.defers Q) a w
section
variable {C : cV} {g : Gh} {U : St} {w : World} {nt : Nat} {nm : Bool} {ro : Ro} {Q : Ex -> Env -> St -> Prop} {ρ : Env}
theorem Fj.mono {Q' : Ex -> Env -> St -> Prop} {e : Exit} (h : Fj g Q ρ U e) (hq : ∀ e ρ U, Q e ρ U -> Q' e ρ U) : Fj g Q' ρ U e := by
 cases e <;> first
  | exact hq _ _ _ h
  | (obtain ⟨x, v, h1, h2, h3⟩ := h; exact ⟨x, v, h1, h2, hq _ _ _ h3⟩)
  | exact h
theorem bO.mono {c : Code} {Q' : Ex -> Env -> St -> Prop} (h : bO C nt ro c Q ρ U) (hq : ∀ e ρ U, Q e ρ U -> Q' e ρ U) : bO C nt ro c Q' ρ U :=
 fun g w a fr h1 h2 h3 h4 sT => wpIn_mono (h g w a fr h1 h2 h3 h4 sT) fun e a' w' ⟨k1, g', af, dV, ms, k2, k3, k4, k5, k6, k7⟩ => ⟨k1, g', af, dV, ms, k2, k3, k4, k5, k6, k7.mono hq⟩
theorem qj.back {g' : Gh} {ds : List Deferred} {ms : List Nat} {e : Exit} {a : Act} (h : qj g' nt nm (ms.map EB ++ ds) Q e a w) (xQ : od nm g g' ms) (hle : Gh.Le g g') : qj g nt nm ds Q e a w := by
 obtain ⟨k1, g2, af, dV, Ge, k2, k3, k4, k5, k6, k7⟩ := h
 exact ⟨k1, g2, af, dV, Ge ++ ms, by rw [k2, List.map_append, qT], xQ.append k3 hle k4, hle.trans k4, k5, k6, k7⟩
def Y9 (K : Env -> St -> Prop) (Q : Ex -> Env -> St -> Prop) : Ex -> Env -> St -> Prop
 | .normal, ρ, U => K ρ U
 | e, ρ, U => Q e ρ U
theorem bO.seq {x y : Code} (h : bO C nt ro x (Y9 (fun ρ U => bO C nt ro y Q ρ U) Q) ρ U) : bO C nt ro (.seq x y) Q ρ U := by
 intro g w a fr h1 h2 h3 h4 sT
 refine wpIn_seq (wpIn_mono (h g w a fr h1 h2 h3 h4 sT) ?_)
 rintro e a' w' ⟨k1, g', af, dV, ms, k2, k3, k4, k5, k6, k7⟩
 cases e with
 | normal =>
   have := k7 g' w' a' fr k5 (h2.mono k4) k6 k1 (sT.mono k4)
   rw [k2] at this
   exact wpIn_mono this fun e a w hp => hp.back k3 k4
 | exit id => exact ⟨k1, g', af, dV, ms, k2, k3, k4, k5, k6, k7⟩
 | ret => exact ⟨k1, g', af, dV, ms, k2, k3, k4, k5, k6, k7⟩
 | panic ch => exact ⟨k1, g', af, dV, ms, k2, k3, k4, k5, k6, k7⟩
 | goto l => exact k7.elim
 | outgrown => exact k7.elim
theorem yl {a : Act} {ds : List Deferred} {e : Exit} (h : br g U w) (hr : gr g ρ a.tmps) (hn : a.tmps.size = nt) (hd : a.defers = ds) (hq : Fj g Q ρ U e) : qj g nt nm ds Q e a w :=
 ⟨hn, g, U, ρ, [], by simpa using hd, lg _ _ _, Gh.Le.refl g, h, hr, hq⟩
theorem bO.skip (h : Q .normal ρ U) : bO C nt ro .skip Q ρ U := fun g w a fr h1 h2 h3 h4 _ => wpIn_skip (yl h1 h3 h4 rfl h)
theorem bO.exit {id : Nat} (h : Q (.exit id) ρ U) : bO C nt ro (.exit id) Q ρ U := fun g w a fr h1 h2 h3 h4 _ => wpIn_exit (yl h1 h3 h4 rfl h)
theorem bO.ret (h : Q .ret ρ U) : bO C nt ro .ret Q ρ U := fun g w a fr h1 h2 h3 h4 _ => wpIn_ret (yl h1 h3 h4 rfl h)
theorem bO.cond {c : Operand} {x y : Code} {b : Bool} (hc : ρ.ev C c = .bool b) (h1 : b = true -> bO C nt ro x Q ρ U) (h2 : b = false -> bO C nt ro y Q ρ U) : bO C nt ro (.cond c x y) Q ρ U := by
 intro g w a fr k1 k2 k3 k4 k5
 have := sN k2 k3 c
 rw [hc] at this
 simp only [aB] at this
 exact wpIn_cond_split this (fun e => h1 e g w a fr k1 k2 k3 k4 k5) (fun e => h2 e g w a fr k1 k2 k3 k4 k5)
theorem bO.aaA {c : Operand} {x y : Code} (hc : ρ.ev C c = .bool true) (h1 : bO C nt ro x Q ρ U) : bO C nt ro (.cond c x y) Q ρ U := bO.cond hc (fun _ => h1) (fun h => by cases h)
theorem bO.aaz {c : Operand} {x y : Code} (hc : ρ.ev C c = .bool false) (h1 : bO C nt ro y Q ρ U) : bO C nt ro (.cond c x y) Q ρ U := bO.cond hc (fun h => by cases h) (fun _ => h1)
def xy (id : Nat) (Q : Ex -> Env -> St -> Prop) : Ex -> Env -> St -> Prop
 | .exit zJ, ρ, U => if zJ = id then Q .normal ρ U else Q (.exit zJ) ρ U
 | e, ρ, U => Q e ρ U
theorem bO.block {id : Nat} {c : Code} (h : bO C nt ro c (xy id Q) ρ U) : bO C nt ro (.block id c) Q ρ U := by
 intro g w a fr h1 h2 h3 h4 sT
 refine wpIn_block (wpIn_mono (h g w a fr h1 h2 h3 h4 sT) ?_)
 rintro e a' w' ⟨k1, g', af, dV, ms, k2, k3, k4, k5, k6, k7⟩
 cases e with
 | normal => exact ⟨k1, g', af, dV, ms, k2, k3, k4, k5, k6, k7⟩
 | exit zJ =>
   have k7 : xy id Q (.exit zJ) dV af := k7
   simp only [xy] at k7
   simp only [Exit.inBlock]
   split
   · rename_i e; rw [if_pos e] at k7; exact ⟨k1, g', af, dV, ms, k2, k3, k4, k5, k6, k7⟩
   · rename_i e; rw [if_neg e] at k7; exact ⟨k1, g', af, dV, ms, k2, k3, k4, k5, k6, k7⟩
 | ret => exact ⟨k1, g', af, dV, ms, k2, k3, k4, k5, k6, k7⟩
 | panic ch => exact ⟨k1, g', af, dV, ms, k2, k3, k4, k5, k6, k7⟩
 | goto l => exact k7.elim
 | outgrown => exact k7.elim
theorem bO.loop {c : Code} (I : Nat -> Env -> St -> Prop) {n : Nat} (h0 : I n ρ U) (round : ∀ n ρ U, I n ρ U -> bO C nt ro c (Y9 (fun dV af => ∃ m, m < n /\ I m dV af) Q) ρ U) : bO C nt ro (.loop c) Q ρ U := by
 intro g w a fr h1 h2 h3 h4 sT
 let J : Nat -> Act -> World -> Prop := fun n a' w' => a'.tmps.size = nt /\ ∃ g' af dV ms, a'.defers = ms.map EB ++ a.defers /\ od ro.nm g g' ms /\ Gh.Le g g' /\ br g' af w' /\ gr g' dV a'.tmps /\ I n dV af
 have ex : ∀ a' w', (∃ n, J n a' w') -> ∃ n, J n a' w' /\ ∀ m, m < n -> ¬ J m a' w' := fun a' w' ⟨n, hn⟩ => by
  induction n using Nat.strongRecOn with
  | _ n ih =>
    by_cases hm : ∃ m, m < n /\ J m a' w'
    · obtain ⟨m, Dz, Tc⟩ := hm; exact ih m Dz Tc
    · exact ⟨n, hn, fun m Dz Tc => hm ⟨m, Dz, Tc⟩⟩
 classical
 let μ : Act -> World -> Nat := fun a' w' => if h : ∃ n, J n a' w' then (ex a' w' h).choose else 0
 have hμ : ∀ a' w', (∃ n, J n a' w') -> J (μ a' w') a' w' /\ ∀ m, m < μ a' w' -> ¬ J m a' w' := fun a' w' h => by
  have := (ex a' w' h).choose_spec
  simp only [μ, dif_pos h]; exact this
 refine wpIn_loop (fun a' w' => ∃ n, J n a' w') μ ⟨n, h4, g, U, ρ, [], by simp, lg _ _ _, Gh.Le.refl g, h1, h3, h0⟩ ?_
 intro a' w' hJ
 obtain ⟨⟨k1, g', af, dV, ms, k2, k3, k4, k5, k6, k7⟩, _⟩ := hμ a' w' hJ
 refine wpIn_mono (round _ dV af k7 g' w' a' fr k5 (h2.mono k4) k6 k1 (sT.mono k4)) ?_
 intro e a2 w2 hp
 rw [k2] at hp
 have hp := hp.back k3 k4
 obtain ⟨q1, g2, bI, rP, Ge, q2, q3, q4, q5, q6, q7⟩ := hp
 cases e with
 | normal =>
   obtain ⟨m, hm, hI⟩ := q7
   have XM : J m a2 w2 := ⟨q1, g2, bI, rP, Ge, q2, q3, q4, q5, q6, hI⟩
   refine ⟨⟨m, XM⟩, ?_⟩
   have := (hμ a2 w2 ⟨m, XM⟩).2
   rcases eZ (μ a2 w2) (μ a' w') with h | h
   · exact h
   · exact absurd XM (this m (by omega))
 | exit id => exact ⟨q1, g2, bI, rP, Ge, q2, q3, q4, q5, q6, q7⟩
 | ret => exact ⟨q1, g2, bI, rP, Ge, q2, q3, q4, q5, q6, q7⟩
 | panic ch => exact ⟨q1, g2, bI, rP, Ge, q2, q3, q4, q5, q6, q7⟩
 | goto l => exact q7.elim
 | outgrown => exact q7.elim
end
end Go.Rip
namespace Go.Rip
open Go.RowKit
section
variable {C : cV} {g : Gh} {U : St} {w : World} {nt : Nat} {nm : Bool} {ro : Ro} {fr : Option Nat} {Q : Ex -> Env -> St -> Prop} {ρ : Env}
def Av (nt : Nat) (o : Oper) : Bool :=
 (match o.dst with | some d => decide (d < nt) | none => true) && (match o.op with | .defer _ => false | _ => true)
def mz (nt : Nat) (ops : Array Oper) : Bool := ops.toList.all (Av nt)
theorem zB {ops : Array Oper} {a : Act} (hr : gr g ρ a.tmps) {o : Oper} {b : Bool} (h : hZ ops ρ o.guard = .bool b) : Region.wanted o (yielded ops a.tmps) = b := by
 unfold hZ at h
 unfold Region.wanted
 cases hg : o.guard with
 | none => simp [hg] at h; simp [h]
 | some jw =>
   obtain ⟨j, want⟩ := jw
   simp only [hg] at h ⊢
   split at h
   · rename_i d hd
     split at h
     · rename_i b' hb
       simp only [AV.bool.injEq] at h
       subst h
       have := hr d
       rw [hb] at this
       simp only [aB] at this
       have rR : a.tmps[d]? = some (.bool b') := by
        rw [Array.getD_eq_getD_getElem?] at this
        cases ht : a.tmps[d]? with
        | none => rw [ht] at this; simp [undef] at this
        | some v => rw [ht] at this; simp at this; rw [this]
       unfold yielded
       rw [hd]
       simp only [Option.bind_some, rR]
       cases b' <;> cases want <;> rfl
     · rename_i hb
       simp only [AV.bool.injEq] at h
       subst h
       have := hr d
       rw [hb] at this
       simp only [aB, aN] at this
       obtain ⟨vs, this, rfl⟩ := this
       have rR : ∀ b, a.tmps[d]? ≠ some (.bool b) := fun b eA => by
        rw [Array.getD_eq_getD_getElem?, eA] at this
        simp at this
       unfold yielded
       rw [hd]
       simp only [Option.bind_some]
       first
        | rfl
        | (split
           · rename_i b' eA; exact absurd eA (rR _)
           · rfl)
     · cases h
   · cases h
theorem nQ (a : Act) (dst : Option Tmp) (v : Value) : (a.put dst v).defers = a.defers /\ (a.put dst v).tmps.size = a.tmps.size := by
 cases dst <;> simp [Act.put]
theorem gr.eI {a : Act} (hr : gr g ρ a.tmps) {dst : Option Tmp} {x : AV} {v : Value} (hd : ∀ d, dst = some d -> d < a.tmps.size) (hx : aB g x v) : gr g (ρ.eI dst x) (a.put dst v).tmps := by
 cases dst with
 | none => exact hr
 | some d => exact hr.put (hd d rfl) hx
theorem tX : aB g (.aU []) undef := by simp only [aB]; exact ⟨[], rfl, by simp [aN]⟩
def KQ (Q : Ex -> Env -> St -> Prop) : Env -> St -> Prop := fun ρ U => Q .normal ρ U
def xo (Q : Ex -> Env -> St -> Prop) : AV -> St -> Prop := fun x U => ∀ ρ, Q (.panic x) ρ U
theorem pk {o : Oper} (cW : Av nt o = true) {mu : Bool} {K : AV -> St -> Prop} {Kp : AV -> St -> Prop} {ds : List Deferred} {next : Act -> World -> Prop} {a : Act}
 (hs : br g U w) (hG : gZ C g) (hr : gr g ρ a.tmps) (hn : a.tmps.size = nt)
 (h : (jh C mu o.op ρ U).wp C U K Kp)
 (oh : ∀ g' af w' x v, Gh.Le g g' -> br g' af w' -> aB g' x v -> K x af -> next (a.put o.dst v) w')
 {QQ : Exit -> Act -> World -> Prop} (FI : ∀ g' af w' x v, Gh.Le g g' -> br g' af w' -> aB g' x v -> Kp x af -> QQ (.panic [{ v, recovered := false }]) a w') :
 o.wpIn (FW fr) 0 C.P a w next QQ := by
 refine ⟨fun _ _ => trivial, ?_⟩
 have QY : ∀ c, o.op ≠ .defer c := fun c e => by simp [Av, e] at cW
 rw [Oper.semAt_eq _ _ _ QY]
 have fits := Rv (C := C) hs hG hr mu o
 generalize hres : (execOp a.eval o).run C.P w = res at fits ⊢
 generalize jh C mu o.op ρ U = r at fits h
 have val : ∀ {x af}, (∃ u w' g', (res = .ok (.value u) w' \/ (res = .ok .skip w' /\ u = undef)) /\ Gh.Le g g' /\ br g' af w' /\ aB g' x u) -> K x af -> o.uponIn (FW fr) 0 C.P a next QQ res := by
  rintro x af ⟨u, w', g', hu, hle, dT, hx⟩ hk
  rcases hu with rfl | ⟨rfl, rfl⟩
  · exact oh g' af w' x u hle dT hx hk
  · exact oh g' af w' x undef hle dT hx hk
 induction r with
 | val v => exact val fits h
 | kW v b x => exact val fits h
 | new k del x => obtain ⟨u, w', g', b, rfl, hb, hle, dT, hx⟩ := fits; exact oh g' _ w' _ u hle dT hx (h b hb)
 | kP b l => obtain ⟨u, w', g', v, x, rfl, hm, hle, dT, hx⟩ := fits; exact oh g' _ w' _ u hle dT hx (h (v, x) hm)
 | enter f args =>
   obtain ⟨vs, w', rfl, dT, ha⟩ := fits
   refine ⟨fun hd => by simp [FW, Fence.wide] at hd, ?_⟩
   have hc : CallsIn (FW fr) 0 C.P f (List.toArray vs) w' (oo g (ai K Kp)) := h g w' vs dT hG ha
   refine hc.mono ?_
   rintro e w2 hp
   cases e with
   | returned v => obtain ⟨g', af, x, h1, h2, h3, h4⟩ := hp; exact oh g' af w2 x v h1 h2 h3 h4
   | panicked ch => obtain ⟨g', af, x, v, rfl, h1, h2, h3, h4⟩ := hp; exact FI g' af w2 x v h1 h2 h3 h4
   | outgrown => exact hp.elim
 | yield l args =>
   obtain ⟨vs, x, w0, w', hx, rfl, rfl, dT, ha⟩ := fits
   obtain ⟨fn, tmps, assign, body, hy, hR⟩ := h g w' vs x dT hG ha hx
   rw [hy]
   refine ⟨fun hd => by simp [FW, Fence.wide] at hd, ?_⟩
   have hc : RoundIn (FW fr) 0 C.P x.aO fn tmps assign body w' (oo g (ai K Kp)) := hR
   refine hc.mono ?_
   rintro e w2 hp
   cases e with
   | returned v => obtain ⟨g', af, x, h1, h2, h3, h4⟩ := hp; exact oh g' af w2 x v h1 h2 h3 h4
   | panicked ch => obtain ⟨g', af, x, v, rfl, h1, h2, h3, h4⟩ := hp; exact FI g' af w2 x v h1 h2 h3 h4
   | outgrown => exact hp.elim
 | panic v => obtain ⟨u, w', rfl, dT, hx⟩ := fits; exact FI g _ w' v u (Gh.Le.refl g) dT hx h
 | cond p r ih => exact ih (fits h.1) h.2
 | bad => exact h.elim
theorem wj {mu : List Nat} {ops : Array Oper} (cW : mz nt ops = true) (g0 : Gh) : ∀ (l : List Nat) (g : Gh) (U : St) (w : World) (ρ : Env) (a : Act) (ds : List Deferred), Gh.Le g0 g -> br g U w -> gZ C g -> gr g ρ a.tmps -> a.tmps.size = nt -> a.defers = ds ->
 oH C mu ops (l.filterMap (ops[·]?)) ρ U (KQ Q) (xo Q) -> wpOpsIn (FW fr) 0 C.P ops (qj g0 nt nm ds Q) l a w
 | [], g, U, w, ρ, a, ds, h0, hs, hG, hr, hn, hd, h => by
   simp only [wpOpsIn]
   exact ⟨hn, g, U, ρ, [], by simpa using hd, lg _ _ _, h0, hs, hr, h⟩
 | i :: rest, g, U, w, ρ, a, ds, h0, hs, hG, hr, hn, hd, h => by
   simp only [wpOpsIn]
   cases ho : ops[i]? with
   | none =>
     simp only [List.filterMap_cons, ho] at h
     exact wj cW g0 rest g U w ρ a ds h0 hs hG hr hn hd h
   | some o =>
     dsimp only
     simp only [List.filterMap_cons, ho, oH] at h
     have mv : o ∈ ops.toList := by
      have := gK (l := ops.toList) (i := i) (a := o) (by rw [kB]; exact ho)
      exact this
     have FH : Av nt o = true := by
      unfold mz at cW
      rw [eY] at cW
      exact cW o mv
     have QZ : ∀ d, o.dst = some d -> d < a.tmps.size := fun d pC => by
      simp only [Av, pC, cF, ej] at FH
      rw [hn]; exact FH.1
     have go : ∀ g' af w' x v, Gh.Le g g' -> br g' af w' -> aB g' x v -> oH C mu ops (rest.filterMap (ops[·]?)) (ρ.eI o.dst x) af (KQ Q) (xo Q) -> wpOpsIn (FW fr) 0 C.P ops (qj g0 nt nm ds Q) rest (a.put o.dst v) w' := fun g' af w' x v hle dT hx hk =>
      wj cW g0 rest g' af w' (ρ.eI o.dst x) (a.put o.dst v) ds (h0.trans hle) dT (hG.mono hle) ((hr.mono hle).eI QZ hx) (by rw [(nQ a o.dst v).2]; exact hn) (by rw [(nQ a o.dst v).1]; exact hd) hk
     cases LK : hZ ops ρ o.guard <;> rw [LK] at h <;> simp only [ao] at h
     rename_i b
     have hw := zB hr LK
     cases b
     · rw [if_neg (by rw [hw]; simp)]
       exact ⟨fun _ _ => trivial, go g U w (.aU []) undef (Gh.Le.refl g) hs tX (h.2 rfl)⟩
     · rw [if_pos hw]
       refine pk FH hs hG hr hn (h.1 rfl) go ?_ (ds := ds)
       intro g' af w' x v hle dT hx hk
       exact ⟨hn, g', af, ρ, [], by simpa using hd, lg _ _ _, h0.trans hle, dT, hr.mono hle, x, v, rfl, hx, hk ρ⟩
theorem BX (ops : Array Oper) : (List.range ops.size).filterMap (ops[·]?) = ops.toList := by
 apply List.ext_getElem?
 intro i
 have : ∀ n, n <= ops.size -> (List.range n).filterMap (ops[·]?) = ops.toList.take n := fun n => by
  induction n with
  | zero => intro _; simp
  | succ n ih =>
    intro hn
    rw [List.range_succ, List.filterMap_append, ih (by omega), qS]
    have : ops[n]? = some ops[n] := by simp
    simp [this]
 rw [this ops.size (cG _), uD (by simp)]
theorem bO.region {id : Nat} {ops : Array Oper} (mu : List Nat) (cW : mz nt ops = true) (h : oH C mu ops ops.toList ρ U (KQ Q) (xo Q)) : bO C nt ro (.region id ops false) Q ρ U := by
 intro g w a fr h1 h2 h3 h4 sT
 exact wpIn_region (wj cW g (List.range ops.size) g U w ρ a a.defers (Gh.Le.refl g) h1 h2 h3 h4 rfl (by rw [BX]; exact h))
end
end Go.Rip
namespace Go.Rip
open Go.RowKit
def lN (x : AV) (U : St) (x' : AV) (af : St) : Prop := ∀ g w v, br g U w -> aB g x v -> ∃ g', Gh.Le g g' /\ br g' af w /\ aB g' x' v
theorem lN.refl (x : AV) (U : St) : lN x U x U := fun g w v h hr => ⟨g, Gh.Le.refl g, h, hr⟩
theorem lN.trans {x y z : AV} {a b c : St} (h : lN x a y b) (k : lN y b z c) : lN x a z c := fun g w v hs hr =>
 let ⟨g1, l1, s1, r1⟩ := h g w v hs hr
 let ⟨g2, l2, s2, r2⟩ := k g1 w v s1 r1
 ⟨g2, l1.trans l2, s2, r2⟩
theorem lN.weaken (x : AV) {U af : St} (h : St.Le af U) : lN x U x af := fun g w v hs hr => ⟨g, Gh.Le.refl g, hs.weaken h, hr⟩
theorem lN.freeze {b : Nat} {U : St} {l : List AV} (hb : U.box b = some l) : lN (.box b 0) U (.cP l) (U.del b) := fun g w v hs hr => by
 simp only [aB] at hr
 obtain ⟨x, hx, rfl⟩ := hr
 obtain ⟨g', vs, hle, _, hi, hl, dT⟩ := hs.freeze hb hx
 exact ⟨g', hle, dT, by simp only [aB]; exact ⟨x.aO, 0, vs, rfl, hi, hl.mono hle⟩⟩
theorem lN.QL {b n iC : Nat} {e : TypeId} {U : St} {l : List AV} (hb : U.box b = some l) : lN (.ms b 0 n iC e) U (.vec n .gC l) (U.del b) := fun g w v hs hr => by
 simp only [aB] at hr
 obtain ⟨x, c, hx, rfl, h1, h2, _, _⟩ := hr
 obtain ⟨g', vs, hle, _, hi, hl, dT⟩ := hs.freeze hb hx
 exact ⟨g', hle, dT, by simp only [aB]; exact ⟨x.aO, 0, c, vs, rfl, h1, h2, trivial, hi, hl.mono hle⟩⟩
def y8 (P : Program) (t : TypeId) (p : AV) (U : St) (k : AV -> Prop) : Prop :=
 match tO P t p U with
 | .val v => k v
 | @aw.cond q _ (.val v) => q /\ k v
 | _ => False
def uE (P : Program) (ρ : Env) (U : St) : List ResultVar -> (List AV -> Prop) -> Prop
 | [], k => k []
 | .tmp t :: rs, k => uE P ρ U rs fun vs => k (ρ.get t :: vs)
 | .cell t ty :: rs, k => y8 P ty (ρ.get t) U fun v => uE P ρ U rs fun vs => k (v :: vs)
def uH : List AV -> AV
 | [x] => x
 | l => .aU l
def acy (P : Program) (fn : Func) (R : cS -> St -> Prop) : Ex -> Env -> St -> Prop
 | .normal, ρ, U | .ret, ρ, U => uE P ρ U fn.results.toList fun vs => ∃ x af, lN (uH vs) U x af /\ R (.ret x) af
 | .panic x, _, U => R (.panic x) U
 | .exit _, _, _ => False
def Env.jg (args : List AV) : Env := ⟨fun t => args.getD t (.aU [])⟩
section
variable {C : cV} {g : Gh} {U : St} {w : World} {nt : Nat} {ro : Ro} {Q : Ex -> Env -> St -> Prop} {ρ : Env}
theorem My (h : br g U w) {t : TypeId} {p : AV} {v : Value} (hp : aB g p v) {k : AV -> Prop} (hk : y8 C.P t p U k) : ∃ u x, (do loadVar t (<- asAddr v) : Sem Value).run C.P w = .ok u w /\ aB g x u /\ k x := by
 unfold y8 tO at hk
 cases hv : nu C.P t with
 | none => simp [hv] at hk
 | some bs =>
   obtain ⟨b, sz⟩ := bs
   cases hl : lP U p with
   | none => rw [hv, hl] at hk; cases b <;> simp at hk
   | some l =>
     rw [hv, hl] at hk
     obtain ⟨i, d, hi, hd, hb, fi⟩ := n0 hv
     obtain ⟨a, vs, rfl, ha, hr, hc⟩ := rh h hp hl
     cases b
     · cases l with
       | nil => simp [gP] at hk
       | cons x xs =>
         simp only [gP] at hk
         simp only [aN] at hr
         obtain ⟨u, us, rfl, h1, h2⟩ := hr
         have := (hc 0 u rfl).1
         have h0 : a.add 0 = a := by simp [Addr.add]
         rw [h0] at this
         refine ⟨u, x, ?_, h1, hk⟩
         simp only [asAddr, loadVar, cA, cQ, cK, kU hd, hb, bH, if_false, run_load, this, fm]
     · obtain ⟨hle, hk⟩ := hk
       have hlen := hr.length
       have gJ : (loadCells a (vs.take sz).length).run C.P w = .ok (vs.take sz).toArray w :=
        run_loadCells_list (P := C.P) w a (vs.take sz) fun j u hu => by
         rw [List.getElem?_take] at hu
         split at hu
         · exact (hc j u hu).1
         · cases hu
       have rE : (vs.take sz).length = sz := by simp; omega
       rw [rE] at gJ
       have Lu : ∀ u ∈ vs.take sz, u.oneCell' = true := fun u hu => by
        obtain ⟨j, hj⟩ := List.getElem?_of_mem hu
        rw [List.getElem?_take] at hj
        split at hj
        · exact (hc j u hj).2
        · cases hj
       refine ⟨.agg (vs.take sz).toArray, _, ?_, ?_, hk⟩
       · simp only [asAddr, loadVar, cA, cQ, cK, kU hd, hb, if_true, ez hi, fi, gJ, fm]
       · simp only [aB]; exact ⟨_, rfl, Lu, hr.take sz⟩
theorem AB (h : br g U w) {a : Act} (hr : gr g ρ a.tmps) : ∀ (rs : List ResultVar) (k : List AV -> Prop), uE C.P ρ U rs k ->
 ∃ us xs, (rs.mapM (fun
  | .tmp t => pure (a.tmps.getD t undef)
  | .cell p t => do loadVar t (<- asAddr (a.tmps.getD p undef)) : ResultVar -> Sem Value)).run C.P w = .ok us w /\ aN g xs us /\ k xs
 | [], k, hk => ⟨[], [], by simp, by simp [aN], hk⟩
 | .tmp t :: rs, k, hk => by
   obtain ⟨us, xs, h1, h2, h3⟩ := AB h hr rs _ hk
   exact ⟨a.tmps.getD t undef :: us, ρ.get t :: xs, by simp only [List.mapM_cons, cA, cQ, cK, h1], by simp only [aN]; exact ⟨_, _, rfl, hr t, h2⟩, h3⟩
 | .cell p t :: rs, k, hk => by
   obtain ⟨u, x, h4, h5, h6⟩ := My h (hr p) hk
   obtain ⟨us, xs, h1, h2, h3⟩ := AB h hr rs _ h6
   simp only [cA] at h4
   exact ⟨u :: us, x :: xs, by simp only [List.mapM_cons, cA, cQ, h4, cK, h1], by simp only [aN]; exact ⟨_, _, rfl, h5, h2⟩, h3⟩
theorem zT (h : br g U w) {a : Act} (hr : gr g ρ a.tmps) {fn : Func} {k : List AV -> Prop} (hk : uE C.P ρ U fn.results.toList k) :
 ∃ u xs, (results fn a.tmps).run C.P w = .ok u w /\ aB g (uH xs) u /\ k xs := by
 obtain ⟨us, xs, h1, h2, h3⟩ := AB h hr _ k hk
 have e : (results fn a.tmps).run C.P w = .ok (if h : us.toArray.size = 1 then us.toArray[0] else .tuple us.toArray) w := by
  unfold results
  rw [Array.mapM_eq_mapM_toList]
  simp only [cA, Sem.run_map, cQ]
  erw [h1]
  rfl
 refine ⟨_, xs, e, ?_, h3⟩
 match xs, us, h2 with
 | [], us, h2 =>
   simp only [aN] at h2; subst h2
   simp [uH, aB, aN]
 | [x], us, h2 =>
   simp only [aN] at h2
   obtain ⟨u, _, rfl, h4, rfl⟩ := h2
   simpa [uH] using h4
 | x :: y :: zs, us, h2 =>
   have hl := h2.length
   rw [dif_neg (by simp at hl ⊢; omega)]
   simp only [uH, aB]
   exact ⟨us, rfl, h2⟩
theorem Ad (args : List AV) (vs : List Value) (n : Nat) (ha : aN g args vs) : gr g (Env.jg args) (vs.toArray ++ Array.replicate n undef) := fun t => by
 simp only [Env.jg, Array.getD_eq_getD_getElem?, uC, Array.getElem?_append, List.size_toArray, List.getElem?_toArray]
 have hl := ha.length
 by_cases ht : t < vs.length
 · rw [if_pos ht]
   obtain ⟨x, hx⟩ : ∃ x, args[t]? = some x := ⟨args[t]'(by omega), by simp⟩
   obtain ⟨v, hv, hr⟩ := ha.get hx
   rw [hx, hv]; exact hr
 · rw [if_neg ht, l9 (by omega)]
   simp only [Option.getD_none]
   have : ((Array.replicate n undef)[t - vs.length]?).getD undef = undef := by
    rw [Array.getElem?_replicate]; split <;> rfl
   rw [this]; exact tX
theorem p7 {fn : Func} {a : Act} {R : cS -> St -> Prop} (g0 : Gh) : ∀ (ms : List Nat) (g : Gh) (w : World) (u : FrameMode), ms.Nodup -> (∀ r ∈ ms, g.res r = true /\ g0.res r = false) -> Gh.Le g0 g -> br g U w -> gr g ρ a.tmps ->
 ((u = .returning /\ uE C.P ρ U fn.results.toList fun vs => ∃ x af, lN (uH vs) U x af /\ R (.ret x) af) \/ (∃ x v, u = .panicking [{ v, recovered := false }] /\ aB g x v /\ R (.panic x) U)) ->
 LeavesInM Fence.wide 0 C.P fn a.tmps (oo g0 R) (ms.map EB) u w
 | [], g, w, u, _, _, hle, hs, hr, h => by
   simp only [jk, LeavesInM]
   rcases h with ⟨rfl, h⟩ | ⟨x, v, rfl, hx, h⟩
   · obtain ⟨v, xs, gJ, hv, x, af, ht, hR⟩ := zT hs hr h
     obtain ⟨g', JT, dT, hx⟩ := ht g w v hs hv
     exact ⟨v, gJ, g', af, x, hle.trans JT, dT, hx, hR⟩
   · exact ⟨g, U, x, v, rfl, hle, hs, hx, h⟩
 | r :: ms, g, w, u, hnd, xQ, hle, hs, hr, h => by
   simp only [et, LeavesInM]
   refine ⟨by rcases h with ⟨rfl, _⟩ | ⟨_, _, rfl, _⟩ <;> simp, .inl ⟨r, { w with heap := w.heap.setIfInBounds r (Obj.deferred none) }, rfl, ?_, ?_⟩⟩
   · obtain ⟨_, hh⟩ := hs.res r (xQ r (by simp)).1
     simp [Instr.takeDeferred, getObj, setObj, cA, Sem.run, hh, Result.andThen]
   · have hlR : Gh.sG g { g with res := fun x => if x = r then false else g.res x } := ⟨fun _ _ h => h, fun _ _ _ h => h, fun _ _ h => h⟩
     refine p7 g0 ms { g with res := fun x => if x = r then false else g.res x } _ u (List.nodup_cons.1 hnd).2 (fun q hq => ?_) ?_ (hs.shut (xQ r (by simp)).1) (fun t => (hr t).eE hlR) ?_
     · refine ⟨?_, (xQ q (by simp [hq])).2⟩
       show (if q = r then false else g.res q) = true
       rw [if_neg (fun e : q = r => by subst e; exact (List.nodup_cons.1 hnd).1 hq)]
       exact (xQ q (by simp [hq])).1
     · refine ⟨hle.base, hle.w0, hle.place, hle.cB, hle.bZ, fun q hq => ?_, hle.xX, hle.u7⟩
       show (if q = r then false else g.res q) = true
       have cH : q ≠ r := fun e => by subst e; rw [(xQ q (by simp)).2] at hq; cases hq
       rw [if_neg cH]
       exact hle.res q hq
     · rcases h with h | ⟨x, v, h1, h2, h3⟩
       · exact .inl h
       · exact .inr ⟨x, v, h1, h2.eE hlR, h3⟩
theorem ad.IT {f : FuncId} {fn : Func} {c : Code} {args : List AV} {R : cS -> St -> Prop} (hf : C.P.funcs[f]? = some fn) (hb : fn.body = some c) (hlen : args.length <= fn.ntmps)
 (h : bO C fn.ntmps .fn c (acy C.P fn R) (Env.jg args) U) : ad C f args U R := by
 intro g w vs hs hG ha
 have hl := ha.length
 refine callsIn_of_wp_marks hf hb trivial ?_
 have CJ := Ad args vs (fn.ntmps - args.length) ha
 have := h g w { tmps := vs.toArray ++ Array.replicate (fn.ntmps - vs.toArray.size) undef, defers := [] } none hs hG (by
  have e : vs.toArray.size = args.length := by simpa using hl
  rw [e]; exact CJ) (by simp; omega) trivial
 refine wpIn_mono this ?_
 rintro e a w' ⟨k1, g', af, dV, ms, k2, k3, k4, k5, k6, k7⟩
 simp only [mB] at k2
 cases e with
 | normal =>
   show LeavesInM _ _ _ _ _ _ a.defers _ _
   rw [k2]
   exact p7 g ms g' w' _ k3.nodup k3.res k4 k5 k6 (.inl ⟨rfl, k7⟩)
 | ret =>
   show LeavesInM _ _ _ _ _ _ a.defers _ _
   rw [k2]
   exact p7 g ms g' w' _ k3.nodup k3.res k4 k5 k6 (.inl ⟨rfl, k7⟩)
 | panic ch =>
   obtain ⟨x, v, rfl, hx, hR⟩ := k7
   show LeavesInM _ _ _ _ _ _ a.defers _ _
   rw [k2]
   exact p7 g ms g' w' _ k3.nodup k3.res k4 k5 k6 (.inr ⟨x, v, rfl, hx, hR⟩)
 | exit id => exact k7.elim
 | goto l => exact k7.elim
 | outgrown => exact k7.elim
def Pure (C : cV) (f : FuncId) (args : List AV) (x : AV) : Prop := ∀ U R, R (.ret x) U -> ad C f args U R
end
end Go.Rip
namespace Go.Rip
open Go.RowKit
section
variable {C : cV} {g : Gh} {U : St} {w : World} {nt : Nat} {ro : Ro} {Q : Ex -> Env -> St -> Prop} {ρ : Env}
def Y3 (o : Nat) (Q : Ex -> Env -> St -> Prop) (ρ : Env) : cS -> St -> Prop
 | .ret _, af => ∃ L, af.loop o = some L /\ L.state ≠ .busy /\ (match L.fH with
   | none => Q .normal ρ (af.del o)
   | some .ret => Q .ret ρ (af.del o)
   | some (.exit id) => Q (.exit id) ρ (af.del o)
   | _ => False)
 | .panic x, af => Q (.panic x) ρ af
theorem br.Qy (h : br g U w) {o : Nat} {L : gN} {p : Place} (ho : U.loop o = some L) (hp : g.place o = some p) (x : Loop) :
 br g (U.del o) { w with heap := w.heap.setIfInBounds p.aO (.loop x) } := by
 obtain ⟨p', k1, k2, fn, tmps, defers, k3, _⟩ := h.live o _ (St.my.1 ho)
 rw [hp] at k1; cases k1
 refine (h.weaken (St.sL U o)).change p.aO k2 (Gh.Le.refl g) rfl rfl ⟨rfl, rfl, rfl, by simp⟩ (fun k hk _ => Array.getElem?_setIfInBounds_ne (Ne.symm hk)) (fun _ _ _ => rfl) (fun _ _ => rfl) (fun q u hu => ?_) (fun es c hr => ?_) (fun b' x' p' h1 h2 e => ?_) (h.tl (St.my.1 ho) hp)
 · have := (h.cB _ _ _ hu).1; simp [World.cell?, k3] at this
 · have := (h.bZ _ _ _ hr).1; rw [k3] at this; cases this
 · simp only [St.del] at h1
   split at h1
   · cases h1
   · rename_i ne; exact ne (h.apart _ _ _ _ _ _ h1 (St.my.1 ho) h2 hp e)
theorem br.qV (h : br g U w) {o : Nat} {L L' : gN} {p : Place} (ho : U.loop o = some L) (hp : g.place o = some p) {fn : FuncId} {tmps : Array Value} {defers : Nat}
 (hn : tmps.size = L'.nt) (hr : ∀ t, aB g (L'.ρ t) (tmps.getD t undef)) :
 br g (U.set o (.loop L')) { w with heap := w.heap.setIfInBounds p.aO (.loop { state := L'.state, pending := L'.fH, fn, tmps, params := L'.params, assign := L'.assign, body := L'.body, defers }) } := by
 obtain ⟨p', k1, k2, SR, EI, y2, k3, _⟩ := h.live o _ (St.my.1 ho)
 rw [hp] at k1; cases k1
 have aL := (kz.1 k3).1
 refine h.rewrite (St.my.1 ho) hp ⟨rfl, rfl, rfl, by simp⟩ (fun k hk _ => Array.getElem?_setIfInBounds_ne (Ne.symm hk)) (fun q => ?_) ?_ ⟨fn, tmps, defers, by simp [aL], hn, hr⟩
 · cases e : g.cB p.aO q with
   | none => rfl
   | some u => have := (h.cB _ _ _ e).1; simp [World.cell?, k3] at this
 · cases e : g.bZ p.aO with
   | none => rfl
   | some u => have := (h.bZ _ _ _ e).1; rw [k3] at this; cases this
theorem bO.rangeFunc (tag : Nat) {f : Operand} {ps : Array Tmp} {assign body : Code} {iK : FuncId} {first cap : List AV} (hf : ρ.ev C f = .func (.func iK) first cap) (sS : hU C.P iK = true)
 (h : ∀ o, U.dB o -> ad C iK (first ++ [.rO o] ++ cap) (U.new o (.loop ⟨ρ.get, nt, ps, assign, body, .ready, none, tag⟩)) (Y3 o Q ρ)) : bO C nt .fn (.rangeFunc f ps assign body) Q ρ U := by
 intro g w a fr hs hG hr hn sT
 cases fr with
 | some l => exact sT.elim
 | none =>
 have X5 := sN hG hr f
 rw [hf] at X5
 simp only [aB] at X5
 obtain ⟨fs, cs, hval, LI, sQ⟩ := X5
 refine wpIn_rangeFunc fun fn _ => ?_
 obtain ⟨FA, BA⟩ := hs.UY
 have hrE := hr.mono FA
 obtain ⟨o, g2, f1, f2, f3, f4⟩ := BA.tc (.loop { state := .ready, pending := none, fn := fn, tmps := a.tmps, params := ps, assign, body, defers := w.heap.size }) 0 0 (.loop ⟨ρ.get, nt, ps, assign, body, .ready, none, tag⟩)
  fun g' hle _ _ => ⟨fn, a.tmps, w.heap.size, heap_alloc_new _ _, hn, fun t => (hrE t).mono hle⟩
 have sV := FA.trans f2
 obtain ⟨Fo, hfn, Yk, hng⟩ : ∃ Fo, C.P.funcs[iK]? = some Fo /\ Fo.body.isNone = false /\ (Fo.name == "runtime.NumGoroutine") = false := by
  unfold hU at sS
  split at sS
  · rename_i Fo hfn
    simp only [cF, Bool.not_eq_true'] at sS
    exact ⟨Fo, hfn, by cases hb : Fo.body <;> simp_all, sS.2⟩
  · cases sS
 refine ⟨w.heap.size + 1, [{ target := .collected w.heap.size, args := #[] }], ((w.alloc (.deferred (some []))).alloc (.loop { state := .ready, pending := none, fn := fn, tmps := a.tmps, params := ps, assign, body, defers := w.heap.size })),
  { target := .fn (.func iK) cs.toArray, args := fs.toArray ++ #[.func (.yield (w.heap.size + 1)) #[] #[]] }, ((w.alloc (.deferred (some []))).alloc (.loop { state := .ready, pending := none, fn := fn, tmps := a.tmps, params := ps, assign, body, defers := w.heap.size })), iK, (fs.toArray ++ #[.func (.yield (w.heap.size + 1)) #[] #[]]) ++ cs.toArray, ((w.alloc (.deferred (some []))).alloc (.loop { state := .ready, pending := none, fn := fn, tmps := a.tmps, params := ps, assign, body, defers := w.heap.size })), ?_, ?_, fun _ _ => trivial, ?_, fun hd => by simp [FW, Fence.wide] at hd, ?_⟩
 · simp only [Instr.enterLoop, FW, cA, run_newObj, cQ, cK]
   rw [Array.size_push]
   rfl
 · simp only [resolve, rangeCall, List.map_toArray, et, jk]
   rw [hval]
   simp only [Deferred.ofValue, cQ]
   rfl
 · simp only [invoke, callFunc, cA, cQ, cK, run_program, hfn, hng, Yk, bH, if_false, fm]
 · have hc := h o f1 g2 _ (fs ++ [Value.func (.yield (w.heap.size + 1)) #[] #[]] ++ cs) f4 (hG.mono sV) (((LI.mono sV).append (by
    simp only [aN]
    exact ⟨_, _, rfl, by simp only [aB]; exact ⟨_, f3, by simp⟩, rfl⟩)).append (sQ.mono sV))
   have e : (fs ++ [Value.func (.yield (w.heap.size + 1)) #[] #[]] ++ cs).toArray = fs.toArray ++ #[Value.func (.yield (w.heap.size + 1)) #[] #[]] ++ cs.toArray := by simp
   rw [e] at hc
   have Ih : CallsIn (FW none) 0 C.P iK _ _ _ := hc
   refine Ih.mono ?_
   rintro e w3 hp
   have LQ : ∀ g3, Gh.Le g2 g3 -> od false g g3 [w.heap.size] := fun g3 hl => ⟨fun h => (by cases h), by simp, fun r hr => by
    simp only [nS] at hr; subst hr
    exact ⟨hl.res _ (f2.res _ (by simp)), hs.C4 (cG _)⟩⟩
   cases e with
   | returned v =>
     obtain ⟨g3, bQ, x, h1, h2, h3, L, h4, h5, h6⟩ := hp
     obtain ⟨p, q1, q2, SR, EI, y2, q3, q4, q5⟩ := h2.live o _ (St.my.1 h4)
     have oR : g3.place o = some ⟨w.heap.size + 1, 0, 0⟩ := h1.place _ _ (by rw [f3]; simp)
     rw [oR] at q1; cases q1
     have xN : (getObj (w.heap.size + 1)).run C.P w3 = .ok (.loop { state := L.state, pending := L.fH, fn := SR, tmps := EI, params := L.params, assign := L.assign, body := L.body, defers := y2 }) w3 := by simp [getObj, Sem.run, q3]
     have LY : ∀ x, (setObj (w.heap.size + 1) x).run C.P w3 = .ok () { w3 with heap := w3.heap.setIfInBounds (w.heap.size + 1) x } := fun x => by simp [setObj, Sem.run, q3]
     have aaI : (L.state == LoopState.busy) = false := by
      cases hL : L.state <;> first
       | rfl
       | exact absurd hL h5
     have sR : (Instr.endLoop (w.heap.size + 1)).run C.P w3 = .ok L.fH { w3 with heap := w3.heap.setIfInBounds (w.heap.size + 1) (.loop { state := .exhausted, pending := L.fH, fn := SR, tmps := EI, params := L.params, assign := L.assign, body := L.body, defers := y2 }) } := by
      simp only [Instr.endLoop, Instr.getLoop, cA, xN, cK, cQ, aaI, bH, if_false, fm, LY]
     have Yv := h2.Qy h4 oR { state := .exhausted, pending := L.fH, fn := SR, tmps := EI, params := L.params, assign := L.assign, body := L.body, defers := y2 }
     have post : ∀ ex, Fj g3 Q ρ (bQ.del o) ex -> qj g nt false a.defers Q ex { a with defers := [{ target := .collected w.heap.size, args := #[] }] ++ a.defers } _ := fun ex hq =>
      ⟨hn, g3, bQ.del o, ρ, [w.heap.size], rfl, LQ g3 h1, sV.trans h1, Yv, hr.mono (sV.trans h1), hq⟩
     refine ⟨L.fH, _, sR, ?_⟩
     generalize L.fH = fH at h6 post ⊢
     cases fH with
     | none => exact post .normal h6
     | some c =>
       cases c <;> first
        | exact h6.elim
        | exact wpIn_exit (post (.exit _) h6)
        | exact wpIn_ret (post .ret h6)
   | panicked ch =>
     obtain ⟨g3, bQ, x, v, rfl, h1, h2, h3, h4⟩ := hp
     exact ⟨hn, g3, bQ, ρ, [w.heap.size], rfl, LQ g3 h1, sV.trans h1, h2, hr.mono (sV.trans h1), x, v, rfl, h3, h4⟩
   | outgrown => exact hp.elim
def wv (ρ : Nat -> AV) : List Tmp -> List AV -> Nat -> AV
 | t :: ts, v :: vs => wv (fun x => if x = t then v else ρ x) ts vs
 | _, _ => ρ
theorem Gu {ρ : Nat -> AV} {tmps : Array Value} : ∀ (ps : List Tmp) (args : List AV) (vs : List Value) (ρ : Nat -> AV) (tmps : Array Value), (∀ t, aB g (ρ t) (tmps.getD t undef)) -> (∀ t ∈ ps, t < tmps.size) -> aN g args vs ->
 ((ps.zip vs).foldl (fun (tmps : Array Value) (p : Tmp × Value) => tmps.setIfInBounds p.1 p.2) tmps).size = tmps.size /\ ∀ t, aB g (wv ρ ps args t) (((ps.zip vs).foldl (fun (tmps : Array Value) (p : Tmp × Value) => tmps.setIfInBounds p.1 p.2) tmps).getD t undef)
 | [], args, vs, ρ, tmps, h, _, _ => by simpa [wv] using h
 | t :: ts, [], vs, ρ, tmps, h, _, ha => by
   simp only [aN] at ha; subst ha
   simpa [wv] using h
 | t :: ts, x :: args, vs, ρ, tmps, h, hl, ha => by
   simp only [aN] at ha
   obtain ⟨v, vs, rfl, hx, ha⟩ := ha
   simp only [List.zip_cons_cons, List.foldl_cons, wv]
   have h1 : ∀ t', aB g ((fun y => if y = t then x else ρ y) t') ((tmps.setIfInBounds t v).getD t' undef) := (gr.put (g := g) (ρ := ⟨ρ⟩) h (hl t (by simp)) hx)
   obtain ⟨h2, h3⟩ := Gu (ρ := ρ) (tmps := tmps) ts args vs _ (tmps.setIfInBounds t v) h1 (fun t' xf => by simpa using hl t' (by simp [xf])) ha
   exact ⟨by rw [h2]; simp, h3⟩
def Y6 (o : Nat) (R : cS -> St -> Prop) : Ex -> Env -> St -> Prop
 | .normal, _, U => ∃ L, U.loop o = some L /\ R (.ret (.bool true)) (U.set o (.loop { L with state := .ready, fH := none }))
 | .ret, _, U => ∃ L, U.loop o = some L /\ R (.ret (.bool false)) (U.set o (.loop { L with state := .done, fH := some .ret }))
 | .exit id, _, U => ∃ L, U.loop o = some L /\ R (.ret (.bool false)) (U.set o (.loop { L with state := .done, fH := some (.exit id) }))
 | .panic _, _, _ => False
def Uv (C : cV) (o : Nat) (body : Code) (nt : Nat) (R : cS -> St -> Prop) : Ex -> Env -> St -> Prop
 | .normal, ρ, U => ∃ L, U.loop o = some L /\ L.state = .ready /\ bO C nt (.round o) body (Y6 o R) ρ (U.set o (.loop { L with state := .busy }))
 | _, _, _ => False
theorem lO.Gl {o : Nat} {args : List AV} {R : cS -> St -> Prop} {L : gN} (hL : U.loop o = some L) (hargs : args.length = L.params.size) (mL : ∀ t ∈ L.params.toList, t < L.nt)
 (h : bO C L.nt (.round o) L.assign (Uv C o L.body L.nt R) ⟨wv L.ρ L.params.toList args⟩ U) : lO C o args U R := by
 intro g w vs x hs hG ha hx
 obtain ⟨p, k1, k2, fn, tmps, defers, k3, k4, k5⟩ := hs.live o _ (St.my.1 hL)
 rw [hx] at k1; cases k1
 have xN : (getObj x.aO).run C.P w = .ok (.loop { state := L.state, pending := L.fH, fn, tmps, params := L.params, assign := L.assign, body := L.body, defers }) w := by simp [getObj, Sem.run, k3]
 have fi : vs.length = L.params.size := by rw [ha.length, hargs]
 obtain ⟨z1, z2⟩ := Gu (g := g) (ρ := L.ρ) (tmps := tmps) L.params.toList args vs L.ρ tmps k5 (fun t ht => by rw [k4]; exact mL t ht) ha
 have aaB : (L.params.zip vs.toArray).foldl (fun (tmps : Array Value) (p : Tmp × Value) => tmps.setIfInBounds p.1 p.2) tmps = (L.params.toList.zip vs).foldl (fun (tmps : Array Value) (p : Tmp × Value) => tmps.setIfInBounds p.1 p.2) tmps := by
  rw [<- Array.foldl_toList]; congr 1; simp
 refine ⟨fn, (L.params.toList.zip vs).foldl (fun (tmps : Array Value) (p : Tmp × Value) => tmps.setIfInBounds p.1 p.2) tmps, L.assign, L.body, ?_, ?_⟩
 · simp only [Instr.yield, Instr.getLoop, cA, xN, cK, cQ, List.size_toArray, fi, ne_eq, not_true_eq_false, if_false, fm]
   rw [<- aaB]
 · refine roundIn_of_wpIn trivial ?_
   have h1 := h g w { tmps := (L.params.toList.zip vs).foldl (fun (tmps : Array Value) (p : Tmp × Value) => tmps.setIfInBounds p.1 p.2) tmps, defers := [] } (some x.aO) hs hG z2 (by rw [<- k4]; exact z1) ⟨x, hx, rfl⟩
   have Ls : L.assign.wpIn (Fence.wide.inRound x.aO) 0 C.P _ _ _ := h1
   refine wpIn_mono Ls ?_
   rintro e a1 w1 ⟨q1, g1, bP, ρ1, ms, q2, q3, q4, q5, q6, q7⟩
   cases e with
   | normal =>
     obtain ⟨L1, r1, r2, r3⟩ := q7
     obtain ⟨p, k1, k2, fn, tmps, defers, k3, k4, k5⟩ := q5.live o _ (St.my.1 r1)
     rw [q4.place _ _ hx] at k1; cases k1
     have xN : (getObj x.aO).run C.P w1 = .ok (.loop { state := L1.state, pending := L1.fH, fn, tmps, params := L1.params, assign := L1.assign, body := L1.body, defers }) w1 := by simp [getObj, Sem.run, k3]
     have LY : ∀ y, (setObj x.aO y).run C.P w1 = .ok () { w1 with heap := w1.heap.setIfInBounds x.aO y } := fun y => by simp [setObj, Sem.run, k3]
     have To := q5.qV (L' := { L1 with state := .busy }) (fn := fn) (defers := defers) r1 (q4.place _ _ hx) k4 k5
     refine ⟨_, by simp only [Instr.beginRound, Instr.getLoop, cA, xN, cK, cQ, LY, r2]; rfl, ?_⟩
     have h2 := r3 g1 _ a1 (some x.aO) To (hG.mono q4) q6 q1 ⟨x, q4.place _ _ hx, rfl⟩
     have h2' : L.body.wpIn (Fence.wide.inRound x.aO) 0 C.P _ _ _ := h2
     refine wpIn_mono h2' ?_
     rintro e a2 w2 ⟨TH, g2, bI, rP, Ge, YW, q3', q4', q5', q6', I0⟩
     have hx2 := (q4.trans q4').place _ _ hx
     have fin : ∀ (L2 : gN) (jump : Option Code) (st : LoopState), bI.loop o = some L2 -> (if jump.isNone then LoopState.ready else .done) = st -> R (.ret (.bool jump.isNone)) (bI.set o (.loop { L2 with state := st, fH := jump })) ->
      ∃ v w', (Instr.endRound x.aO jump).run C.P w2 = .ok v w' /\ oo g R (.returned v) w' := fun L2 jump st hl fN hR => by
      obtain ⟨p, k1, k2, fn, tmps, defers, k3, k4, k5⟩ := q5'.live o _ (St.my.1 hl)
      rw [hx2] at k1; cases k1
      have xN : (getObj x.aO).run C.P w2 = .ok (.loop { state := L2.state, pending := L2.fH, fn, tmps, params := L2.params, assign := L2.assign, body := L2.body, defers }) w2 := by simp [getObj, Sem.run, k3]
      have LY : ∀ y, (setObj x.aO y).run C.P w2 = .ok () { w2 with heap := w2.heap.setIfInBounds x.aO y } := fun y => by simp [setObj, Sem.run, k3]
      have Yv := q5'.qV (L' := { L2 with state := st, fH := jump }) (fn := fn) (defers := defers) hl hx2 k4 k5
      refine ⟨.bool jump.isNone, _, by simp only [Instr.endRound, Instr.getLoop, cA, xN, cK, cQ, LY, fN], g2, _, .bool jump.isNone, q4.trans q4', Yv, by simp only [aB], hR⟩
     cases e with
     | normal => obtain ⟨L2, hl, hR⟩ := I0; exact fin L2 none .ready hl rfl hR
     | ret => obtain ⟨L2, hl, hR⟩ := I0; exact fin L2 (some .ret) .done hl rfl hR
     | exit id => obtain ⟨L2, hl, hR⟩ := I0; exact fin L2 (some (.exit id)) .done hl rfl hR
     | panic ch => obtain ⟨x, v, _, _, hf⟩ := I0; exact hf.elim
     | goto l => exact I0.elim
     | outgrown => exact I0.elim
   | panic ch => obtain ⟨x, v, _, _, hf⟩ := q7; exact hf.elim
   | ret => exact q7.elim
   | exit id => exact q7.elim
   | goto l => exact q7.elim
   | outgrown => exact q7.elim
end
end Go.Rip
namespace Go.Rip
open Go.RowKit
section
variable {C : cV} {g : Gh} {U af : St} {w : World} {nt : Nat} {nm : Bool} {ro : Ro} {fr : Option Nat} {Q : Ex -> Env -> St -> Prop} {ρ dV : Env} {mu : Bool}
theorem tb {l : List Operand} (h : ∀ x ∈ l, ρ.ev C x = dV.ev C x) : l.map (ρ.ev C) = l.map (dV.ev C) := List.map_congr_left h
theorem wU {parts : Array (Nat × Operand)} (h : ∀ x ∈ (parts.toList.map (·.2)).toArray, ρ.ev C x = dV.ev C x) : lQ C ρ parts = lQ C dV parts := by
 unfold lQ
 apply List.map_congr_left
 intro p hp
 rw [h p.2 (by simp; exact ⟨p.1, by simpa using hp⟩)]
theorem MO (o : Op) (h : ∀ x ∈ o.operands, ρ.ev C x = dV.ev C x) : jh C mu o ρ U = jh C mu o dV U := by
 cases o with
 | call c =>
   obtain ⟨callee, ⟨args⟩, ⟨Uq⟩⟩ := c
   simp only [jh, y1]
   have ha : args.map (ρ.ev C) = args.map (dV.ev C) := tb fun x hx => h x (by simp only [Op.operands, Call.operands]; rw [Array.mem_append]; exact .inr (by simpa using hx))
   cases callee with
   | value f =>
     show lz C.P (ρ.ev C f) (args.map (ρ.ev C)) = lz C.P (dV.ev C f) (args.map (dV.ev C))
     rw [ha, h f (by simp [Op.operands, Call.operands])]
   | invoke r m => rfl
   | builtin b =>
     have hm : ∀ x ∈ args, ρ.ev C x = dV.ev C x := fun x hx => h x (by simp only [Op.operands, Call.operands]; rw [Array.mem_append]; exact .inr (by simpa using hx))
     split <;> simp_all
 | build t parts => simp only [jh]; rw [wU h]
 | buildSlice t n parts => simp only [jh]; rw [wU h]
 | makeFunc fn first cap =>
   simp only [jh]
   rw [tb (l := first.toList) fun x hx => h x (by simp [Op.operands]; exact .inl (by simpa using hx)), tb (l := cap.toList) fun x hx => h x (by simp [Op.operands]; exact .inr (by simpa using hx))]
 | slice t x lo hi m =>
   cases m with
   | some _ => rfl
   | none =>
     simp only [jh]
     have h1 := h x (by simp [Op.operands])
     have h2 : lo.map (ρ.ev C) = lo.map (dV.ev C) := by
      cases lo with
      | none => rfl
      | some y => simp only [Option.map_some]; rw [h y (by simp [Op.operands])]
     have h3 : hi.map (ρ.ev C) = hi.map (dV.ev C) := by
      cases hi with
      | none => rfl
      | some y => simp only [Option.map_some]; rw [h y (by simp [Op.operands])]
     rw [h1, h2, h3]
 | makeMap t r => cases r <;> rfl
 | next i b => cases b <;> simp_all [jh, Op.operands]
 | _ => simp_all [jh, Op.operands]
def cr : AV -> List Nat
 | .box b _ => [b]
 | .ms b _ _ _ _ => [b]
 | .mp m => [m]
 | .it o => [o]
 | .vec _ (.own τ) _ => [τ]
 | _ => []
theorem UB {b : Nat} (h : af.live b = U.live b) : af.box b = U.box b := by simp only [St.box, h]
theorem Hg {p : AV} (h : ∀ b ∈ cr p, af.live b = U.live b) : lP af p = lP U p := by
 cases p <;> simp only [lP]
 rw [UB (h _ (by simp [cr]))]
def quiet : Op -> Bool
 | .move _ | .assign _ | .pick .. | .load .. | .build .. | .buildSlice .. | .fieldAddr .. | .field .. | .indexAddr .. | .index .. | .binOp .. | .unOp .. | .convert .. | .nilCheck _ | .lookup .. | .extract .. | .makeInterface .. | .makeFunc ..
 | .slice .. => true
 | .call c => match c.callee with
   | .value _ => true
   | .builtin .len | .builtin .min | .builtin .max => true
   | _ => false
 | _ => false
def ot : Op -> Bool
 | .load .. | .lookup .. => true
 | _ => false
theorem U9 (o : Op) (hq : quiet o = true) (h : ot o = true -> ∀ x ∈ o.operands, ∀ b ∈ cr (ρ.ev C x), af.live b = U.live b) : jh C mu o ρ af = jh C mu o ρ U := by
 cases o with
 | call c =>
   obtain ⟨callee, ⟨args⟩, ⟨Uq⟩⟩ := c
   simp only [jh, y1]
   cases callee with
   | value f => rfl
   | invoke r m => rfl
   | builtin b =>
     cases b <;> simp only [quiet, bH] at hq
     all_goals (split <;> first
      | rfl
      | (simp only [F7]; done)
      | contradiction
      | simp_all)
 | load t a =>
   simp only [jh, tO]
   rw [Hg (h rfl a (by simp [Op.operands]))]
 | lookup t m k ok =>
   have := h rfl m (by simp [Op.operands])
   simp only [jh, ve]
   generalize ρ.ev C m = y at this ⊢
   cases y <;> simp_all [cr, St.mp, mq]
 | slice t x lo hi m => cases m <;> rfl
 | _ => first | rfl | simp [quiet] at hq
theorem aw.wp_mono {K K' : AV -> St -> Prop} {Kp : AV -> St -> Prop} (hk : ∀ v U, K v U -> K' v U) : ∀ (r : aw) {U : St}, r.wp C U K Kp -> r.wp C U K' Kp
 | .val _, _, h => hk _ _ h
 | .kW _ _ _, _, h => hk _ _ h
 | .new _ _ _, _, h => fun b hb => hk _ _ (h b hb)
 | .kP _ _, _, h => fun p hp => hk _ _ (h p hp)
 | .enter _ _, _, h => ad.mono h fun r U hr => by cases r <;> first | exact hk _ _ hr | exact hr
 | .yield _ _, _, h => lO.mono h fun r U hr => by cases r <;> first | exact hk _ _ hr | exact hr
 | .panic _, _, h => h
 | @aw.cond _ _ r, _, h => ⟨h.1, aw.wp_mono hk r h.2⟩
 | .bad, _, h => h
theorem H4 {x : Operand} {dst : Option Tmp} {v : AV} (h : ∀ d, dst = some d -> x ≠ .tmp d) : (ρ.eI dst v).ev C x = ρ.ev C x := by
 cases dst with
 | none => rfl
 | some d =>
   cases x <;> simp only [Env.eI, Env.put, Env.ev]
   rename_i t
   rw [if_neg (fun e => h d rfl (by rw [e]))]
theorem IX (ops : Array Oper) (o : Oper) {dst : Option Tmp} {v : AV} (h : ∀ d, dst = some d -> d ∉ o.looksAt ops) : jh C mu o.op (ρ.eI dst v) U = jh C mu o.op ρ U :=
 MO o.op fun x hx => H4 fun d hd YC => h d hd (by
  subst YC
  exact List.mem_append_left _ (List.mem_filterMap.2 ⟨.tmp d, by simpa using hx, rfl⟩))
theorem Dr (ops : Array Oper) (o : Oper) {dst : Option Tmp} {v : AV} (h : ∀ d, dst = some d -> d ∉ o.looksAt ops) : hZ ops (ρ.eI dst v) o.guard = hZ ops ρ o.guard := by
 cases dst with
 | none => rfl
 | some d =>
   have hd := h d rfl
   unfold hZ
   cases hg : o.guard with
   | none => rfl
   | some jw =>
     obtain ⟨j, want⟩ := jw
     simp only
     cases hb : (ops[j]?).bind (·.dst) with
     | none => rfl
     | some t =>
       have cH : t ≠ d := fun e => by
        subst e
        apply hd
        unfold Oper.looksAt
        rw [hg]
        simp only [hb, Option.toList_some, gg, nS, or_true]
       simp only [Env.eI, Env.put, if_neg cH]
theorem MR {d d' : Option Tmp} {v v' : AV} (h : ∀ t, d = some t -> d' ≠ some t) : (ρ.eI d v).eI d' v' = (ρ.eI d' v').eI d v := by
 cases d <;> cases d' <;> simp only [Env.eI]
 rename_i a b
 have cH : b ≠ a := fun e => h a rfl (by rw [e])
 simp only [Env.put, Env.mk.injEq]
 funext t
 by_cases h1 : t = b
 · subst h1; rw [if_pos rfl, if_neg cH, if_pos rfl]
 · rw [if_neg h1]
   by_cases h2 : t = a
   · rw [if_pos h2, if_pos h2]
   · rw [if_neg h2, if_neg h2, if_neg h1]
def ph (mu : List Nat) (o : Oper) : Bool := match o.dst with | some d => mu.contains d | none => false
def ov (C : cV) (mu : List Nat) (ops : Array Oper) (I : St -> Prop) (i : Nat) (K : Env -> St -> Prop) (Kp : AV -> St -> Prop) (ρ : Env) (U : St) : Prop :=
 match ops[i]? with
 | none => K ρ U
 | some o => ao (hZ ops ρ o.guard) ((jh C (ph mu o) o.op ρ U).wp C U (fun v af => I af /\ K (ρ.eI o.dst v) af) Kp) (K (ρ.eI o.dst (.aU [])) U)
def TF (o : Oper) (k : Nat) : Bool := o.after.toList.any fun e => Region.binds .any e && Nat.beq e.on k
def kO (ops : Array Oper) (i : Nat) : Bool := match ops[i]? with
 | some o => (List.range ops.size).all fun k => Nat.beq k i || (TF o k || o.after.toList.any fun e => Region.binds .any e && (match ops[e.on]? with | some m => TF m k | none => false))
 | none => false
def Dn (ops : Array Oper) (listed : Array Bool) : Prop := ∀ m o, ops[m]? = some o -> listed.getD m false = true -> ∀ e ∈ o.after, Region.binds .any e = true -> listed.getD e.on false = true
theorem Gp {o : Oper} {k : Nat} (h : TF o k = true) : ∃ e ∈ o.after, Region.binds .any e = true /\ e.on = k := by
 unfold TF at h
 rw [List.any_eq_true] at h
 obtain ⟨e, he, hb⟩ := h
 simp only [cF] at hb
 exact ⟨e, by simpa using he, hb.1, eT hb.2⟩
theorem xq {ops : Array Oper} {i : Nat} {listed : Array Bool} (hD : Dn ops listed) (hr : i ∈ Region.ready .any ops listed) (h : kO ops i = true) (k : Nat) (hk : k < ops.size) (cH : k ≠ i) : listed.getD k false = true := by
 obtain ⟨_, o, ho, cq⟩ := mem_ready.1 hr
 unfold kO at h
 rw [ho] at h
 simp only [eY, List.mem_range, ln] at h
 rcases h k hk with h | h | h
 · exact absurd (eT h) cH
 · obtain ⟨e, he, hb, By⟩ := Gp h
   rw [<- By]; exact cq e he hb
 · rw [List.any_eq_true] at h
   obtain ⟨e, he, hb⟩ := h
   rw [cF] at hb
   have h1 := cq e (by simpa using he) hb.1
   have h2 := hb.2
   split at h2
   · rename_i m hm
     obtain ⟨e', kI, eA, abY⟩ := Gp h2
     rw [<- abY]; exact hD _ m hm h1 e' kI eA
   · cases h2
theorem Dn.set {ops : Array Oper} {listed : Array Bool} (hD : Dn ops listed) {i : Nat} (hr : i ∈ Region.ready .any ops listed) : Dn ops (listed.setIfInBounds i true) := by
 intro m o ho hl e he hb
 obtain ⟨_, oi, FG, cq⟩ := mem_ready.1 hr
 by_cases Bx : i = m
 · subst Bx
   rw [FG] at ho; cases ho
   exact getD_set_true (cq e he hb)
 · rw [getD_set_ne false Bx] at hl
   exact getD_set_true (hD m o ho hl e he hb)
theorem Dn.none (ops : Array Oper) (n : Nat) : Dn ops (Array.replicate n false) := by
 intro m o ho hl
 rw [Array.getD_eq_getD_getElem?, Array.getElem?_replicate] at hl
 split at hl <;> simp at hl
def Ix (ops : Array Oper) (I : St -> Prop) (i : Nat) (U : St) : Prop := kO ops i = true \/ I U
def oC (C : cV) (mu : List Nat) (ops : Array Oper) (I : St -> Prop) (K : Env -> St -> Prop) (Kp : AV -> St -> Prop) : Nat -> Array Bool -> Env -> St -> Prop
 | 0, listed, ρ, U => Region.ready .any ops listed = [] /\ K ρ U
 | n + 1, listed, ρ, U => (Region.ready .any ops listed = [] -> K ρ U) /\ ∀ i ∈ Region.ready .any ops listed, ov C mu ops (Ix ops I i) i (oC C mu ops I K Kp n (listed.setIfInBounds i true)) Kp ρ U
theorem Jm {mu : List Nat} {ops : Array Oper} {I : St -> Prop} (cW : mz nt ops = true) (g0 : Gh) : ∀ (fuel t : Nat) (listed : Array Bool) (g : Gh) (U : St) (w : World) (ρ : Env) (a : Act) (ds : List Deferred), Gh.Le g0 g -> br g U w -> gZ C g -> gr g ρ a.tmps -> a.tmps.size = nt -> a.defers = ds ->
 oC C mu ops I (KQ Q) (xo Q) fuel listed ρ U -> wpOpsIn (FW fr) 0 C.P ops (qj g0 nt nm ds Q) (Region.linearise.go .any ops fuel t listed []) a w := by
 intro fuel
 induction fuel with
 | zero =>
   intro t listed g U w ρ a ds h0 hs hG hr hn hd h
   simp only [Region.linearise.go, List.reverse_nil, wpOpsIn]
   exact ⟨hn, g, U, ρ, [], by simpa using hd, lg _ _ _, h0, hs, hr, h.2⟩
 | succ fuel ih =>
   intro t listed g U w ρ a ds h0 hs hG hr hn hd h
   obtain ⟨h1, h2⟩ := h
   simp only [Region.linearise.go]
   change wpOpsIn (FW fr) 0 C.P ops (qj g0 nt nm ds Q) (match (Region.ready .any ops listed)[t % (Region.ready .any ops listed).length]? with
    | some i => Region.linearise.go .any ops fuel (t / (Region.ready .any ops listed).length) (listed.setIfInBounds i true) [i]
    | none => [].reverse) a w
   cases hi : (Region.ready .any ops listed)[t % (Region.ready .any ops listed).length]? with
   | none =>
     have CK : Region.ready .any ops listed = [] := by
      cases hr : Region.ready .any ops listed with
      | nil => rfl
      | cons x xs =>
        rw [hr] at hi
        have aL : t % (x :: xs).length < (x :: xs).length := Nat.mod_lt _ (by simp)
        simp at hi
        simp at aL
        omega
     simp only [List.reverse_nil, wpOpsIn]
     exact ⟨hn, g, U, ρ, [], by simpa using hd, lg _ _ _, h0, hs, hr, h1 CK⟩
   | some i =>
     dsimp only
     rw [linearise_go_acc, List.reverse_singleton, List.singleton_append]
     simp only [wpOpsIn]
     have fN := h2 i (gK hi)
     unfold ov at fN
     cases ho : ops[i]? with
     | none =>
       rw [ho] at fN
       exact ih _ _ g U w ρ a ds h0 hs hG hr hn hd fN
     | some o =>
       rw [ho] at fN
       dsimp only at fN ⊢
       have mv : o ∈ ops.toList := gK (l := ops.toList) (i := i) (a := o) (by rw [kB]; exact ho)
       have FH : Av nt o = true := by
        unfold mz at cW
        rw [eY] at cW
        exact cW o mv
       have QZ : ∀ d, o.dst = some d -> d < a.tmps.size := fun d pC => by
        simp only [Av, pC, cF, ej] at FH
        rw [hn]; exact FH.1
       have go : ∀ g' af w' x v, Gh.Le g g' -> br g' af w' -> aB g' x v -> oC C mu ops I (KQ Q) (xo Q) fuel (listed.setIfInBounds i true) (ρ.eI o.dst x) af -> wpOpsIn (FW fr) 0 C.P ops (qj g0 nt nm ds Q) (Region.linearise.go .any ops fuel (t / (Region.ready .any ops listed).length) (listed.setIfInBounds i true) []) (a.put o.dst v) w' := fun g' af w' x v hle dT hx hk =>
        ih _ _ g' af w' (ρ.eI o.dst x) (a.put o.dst v) ds (h0.trans hle) dT (hG.mono hle) ((hr.mono hle).eI QZ hx) (by rw [(nQ a o.dst v).2]; exact hn) (by rw [(nQ a o.dst v).1]; exact hd) hk
       cases LK : hZ ops ρ o.guard <;> rw [LK] at fN <;> simp only [ao] at fN
       rename_i b
       have hw := zB hr LK
       cases b
       · rw [if_neg (by rw [hw]; simp)]
         exact ⟨fun _ _ => trivial, go g U w (.aU []) undef (Gh.Le.refl g) hs tX (fN.2 rfl)⟩
       · rw [if_pos hw]
         refine pk FH hs hG hr hn (fN.1 rfl) (fun g' af w' x v hle dT hx hk => go g' af w' x v hle dT hx hk.2) ?_ (ds := ds)
         intro g' af w' x v hle dT hx hk
         exact ⟨hn, g', af, ρ, [], by simpa using hd, lg _ _ _, h0.trans hle, dT, hr.mono hle, x, v, rfl, hx, hk ρ⟩
theorem bO.D4 {id : Nat} {ops : Array Oper} (mu : List Nat) (I : St -> Prop) (hm : C.P.follows .mixedOrders = true) (cW : mz nt ops = true) (h : oC C mu ops I (KQ Q) (xo Q) ops.size (Array.replicate ops.size false) ρ U) : bO C nt ro (.region id ops true) Q ρ U := by
 intro g w a fr h1 h2 h3 h4 sT
 refine wpIn_region_draw fun t => ?_
 simp only [Region.schedule, hm, Bool.true_or, if_true, Region.linearise]
 have hs := h1.grow (kj w)
 exact Jm cW g ops.size t _ g U _ ρ a a.defers (Gh.Le.refl g) hs h2 h3 h4 rfl h
def aw.yv (C : cV) : aw -> AV -> Prop
 | .val u, v => u = v
 | @aw.cond p _ r, v => p /\ r.yv C v
 | .enter f args, v => Pure C f args v
 | _, _ => False
theorem aw.KX {K : AV -> St -> Prop} {Kp : AV -> St -> Prop} : ∀ (r : aw) {v : AV}, r.yv C v -> K v U -> r.wp C U K Kp
 | .val _, _, h, hk => by simp only [aw.yv] at h; subst h; exact hk
 | @aw.cond _ _ r, _, h, hk => ⟨h.1, aw.KX r h.2 hk⟩
 | .enter _ _, _, h, hk => h U _ hk
 | .kW _ _ _, _, h, _ => h.elim
 | .new _ _ _, _, h, _ => h.elim
 | .kP _ _, _, h, _ => h.elim
 | .yield _ _, _, h, _ => h.elim
 | .panic _, _, h, _ => h.elim
 | .bad, _, h, _ => h.elim
def cv (B : List Nat) (ay U : St) : Prop := ∀ b ∈ B, U.live b = ay.live b
def Still (C : cV) (mu : List Nat) (ops : Array Oper) (B : List Nat) (ay : St) (o : Oper) (ρ : Env) (v : AV) : Prop :=
 (hZ ops ρ o.guard = .bool true /\ quiet o.op = true /\ (ot o.op = true -> ∀ x ∈ o.op.operands.toList, ∀ b ∈ cr (ρ.ev C x), b ∈ B) /\ (jh C (ph mu o) o.op ρ ay).yv C v) \/ (hZ ops ρ o.guard = .bool false /\ v = .aU [])
theorem Still.put {mu : List Nat} {ops : Array Oper} {B : List Nat} {ay : St} {o : Oper} {v : AV} (h : Still C mu ops B ay o ρ v) {dst : Option Tmp} {u : AV} (hd : ∀ d, dst = some d -> d ∉ o.looksAt ops) : Still C mu ops B ay o (ρ.eI dst u) v := by
 unfold Still at h ⊢
 rw [Dr ops o hd, IX ops o hd]
 rcases h with ⟨h1, h2, h3, h4⟩ | h
 · refine .inl ⟨h1, h2, fun qB x hx b hb => h3 qB x hx b ?_, h4⟩
   rw [H4 fun d pC YC => hd d pC (by
    subst YC
    exact List.mem_append_left _ (List.mem_filterMap.2 ⟨.tmp d, hx, rfl⟩))] at hb
   exact hb
 · exact .inr h
theorem Still.step {mu : List Nat} {ops : Array Oper} {B : List Nat} {ay : St} {o : Oper} {v : AV} {i : Nat} {K : Env -> St -> Prop} {Kp : AV -> St -> Prop} (hi : ops[i]? = some o) (h : Still C mu ops B ay o ρ v) (hI : cv B ay U) {I' : St -> Prop} (Bg : I' U) (hk : K (ρ.eI o.dst v) U) :
 ov C mu ops I' i K Kp ρ U := by
 unfold ov
 rw [hi]
 dsimp only
 rcases h with ⟨h1, h2, h3, h4⟩ | ⟨h1, rfl⟩
 · rw [h1]
   refine ⟨fun _ => ?_, fun h => by cases h⟩
   have e := U9 (C := C) (ρ := ρ) (mu := ph mu o) (af := U) (U := ay) o.op h2 (fun qB x hx b hb => hI b (h3 qB x (by simpa using hx) b hb))
   rw [e]
   exact aw.KX _ h4 ⟨Bg, hk⟩
 · rw [h1]
   exact ⟨fun h => (by cases h), fun _ => hk⟩
theorem B2 {mu : List Nat} {ops : Array Oper} {I : St -> Prop} {i : Nat} {K K' : Env -> St -> Prop} {Kp : AV -> St -> Prop} (hI : I U) (hk : ∀ ρ U, I U -> K ρ U -> K' ρ U) (h : ov C mu ops I i K Kp ρ U) : ov C mu ops I i K' Kp ρ U := by
 unfold ov at h ⊢
 split
 · rename_i ho; rw [ho] at h; exact hk _ _ hI h
 · rename_i o ho
   rw [ho] at h
   dsimp only at h
   cases hg : hZ ops ρ o.guard <;> rw [hg] at h <;> simp only [ao] at h ⊢
   exact ⟨fun e => aw.wp_mono (fun v U hv => ⟨hv.1, hk _ _ hv.1 hv.2⟩) _ (h.1 e), fun e => hk _ _ hI (h.2 e)⟩
theorem AS {mu : List Nat} {ops : Array Oper} {B : List Nat} {ay : St} {K : Env -> St -> Prop} {Kp : AV -> St -> Prop} {i : Nat} {oi : Oper} {v : AV} (hi : ops[i]? = some oi) :
 ∀ (fuel : Nat) (listed : Array Bool) (ρ : Env) (U : St),
  (∀ j oj, ops[j]? = some oj -> j ≠ i -> listed.getD j true = false -> (∀ e ∈ oj.after, Region.binds .any e = true -> e.on ≠ i) -> oi.apart ops oj = true) ->
  i ∈ Region.ready .any ops listed -> Dn ops listed -> Still C mu ops B ay oi ρ v -> cv B ay U ->
  oC C mu ops (cv B ay) K Kp fuel (listed.setIfInBounds i true) (ρ.eI oi.dst v) U -> oC C mu ops (cv B ay) K Kp (fuel + 1) listed ρ U := by
 intro fuel
 induction fuel with
 | zero =>
   intro listed ρ U _ hr hD hy hI H
   refine ⟨fun h => (by rw [h] at hr; cases hr), fun j hj => ?_⟩
   by_cases tH : j = i
   · subst tH; exact hy.step hi hI (.inr hI) H
   · have := ready_mono hj tH
     rw [H.1] at this
     cases this
 | succ fuel ih =>
   intro listed ρ U Ew hr hD hy hI H
   refine ⟨fun h => (by rw [h] at hr; cases hr), fun j hj => ?_⟩
   by_cases tH : j = i
   · subst tH; exact hy.step hi hI (.inr hI) H
   · have h1 := H.2 j (ready_mono hj tH)
     obtain ⟨Ye, oj, pE, cq⟩ := mem_ready.1 hj
     have Q5 : ∀ e ∈ oj.after, Region.binds .any e = true -> e.on ≠ i := fun e he hb heq => by
      have h1 := cq e he hb
      have h0 := (mem_ready.1 hr).1
      rw [heq] at h1
      rcases eZ i listed.size with h' | h'
      · simp [h'] at h0 h1; rw [h0] at h1; cases h1
      · simp [wy h'] at h1
     obtain ⟨a1, a2, a3⟩ := Oper.apart_spec (Ew j oj pE tH Ye Q5)
     have X8 : ∀ k ok, ops[k]? = some ok -> k ≠ i -> (listed.setIfInBounds j true).getD k true = false ->
      (∀ e ∈ ok.after, Region.binds .any e = true -> e.on ≠ i) -> oi.apart ops ok = true := fun k ok hk Il hun fM => by
      refine Ew k ok hk Il ?_ fM
      by_cases Br : j = k
      · subst Br; exact Ye
      · rw [getD_set_ne true Br] at hun; exact hun
     have LR : ¬ kO ops j = true := fun aaG => by
      have h1 := xq hD hj aaG i (kz.1 hi).1 (Ne.symm tH)
      have h0 := (mem_ready.1 hr).1
      rcases eZ i listed.size with h' | h'
      · simp [h'] at h0 h1; rw [h0] at h1; cases h1
      · simp [wy h'] at h1
     have next : ∀ (u : AV) (af : St), cv B ay af -> oC C mu ops (cv B ay) K Kp fuel ((listed.setIfInBounds i true).setIfInBounds j true) ((ρ.eI oi.dst v).eI oj.dst u) af ->
      oC C mu ops (cv B ay) K Kp (fuel + 1) (listed.setIfInBounds j true) (ρ.eI oj.dst u) af := fun u af Bg hA => by
      refine ih (listed.setIfInBounds j true) (ρ.eI oj.dst u) af X8 (ready_mono hr (Ne.symm tH)) (hD.set hj) (hy.put a3) Bg ?_
      rw [Array.setIfInBounds_comm _ _ tH, <- MR (d := oi.dst) (d' := oj.dst) (fun t ht => a2 t ht)]
      exact hA
     unfold ov at h1 ⊢
     rw [pE] at h1 ⊢
     dsimp only at h1 ⊢
     rw [Dr ops oj a1, IX ops oj a1] at h1
     cases hg : hZ ops ρ oj.guard <;> rw [hg] at h1 <;> simp only [ao] at h1 ⊢
     exact ⟨fun e => aw.wp_mono (fun u af hu => ⟨hu.1, next u af (hu.1.resolve_left LR) hu.2⟩) _ (h1.1 e), fun e => next _ U hI (h1.2 e)⟩
def ji (ops : Array Oper) : List (Bool × Nat) -> Array Bool -> Bool
 | [], listed => (Region.ready .any ops listed).isEmpty
 | (true, i) :: r, listed => (Region.ready .any ops listed).contains i && Region.free .any ops listed i && ji ops r (listed.setIfInBounds i true)
 | (false, i) :: r, listed => (Region.ready .any ops listed == [i]) && ji ops r (listed.setIfInBounds i true)
def mA (C : cV) (mu : List Nat) (ops : Array Oper) (B : List Nat) (ay : St) (K : Env -> St -> Prop) (Kp : AV -> St -> Prop) : List (Bool × Nat) -> Env -> St -> Prop
 | [], ρ, U => K ρ U
 | (true, i) :: r, ρ, U => ∃ o v, ops[i]? = some o /\ Still C mu ops B ay o ρ v /\ mA C mu ops B ay K Kp r (ρ.eI o.dst v) U
 | (false, i) :: r, ρ, U => ov C mu ops (Ix ops (cv B ay) i) i (mA C mu ops B ay K Kp r) Kp ρ U
theorem RE {ops : Array Oper} {i : Nat} {listed : Array Bool} (hD : Dn ops listed) (hi : i ∈ Region.ready .any ops listed) (ha : kO ops i = true) : ∀ {r : List (Bool × Nat)}, ji ops r (listed.setIfInBounds i true) = true -> r = []
 | [], _ => rfl
 | (b, k) :: r, h => by
   exfalso
   have hk : k ∈ Region.ready .any ops (listed.setIfInBounds i true) := by
    cases b with
    | true => simp only [ji, cF] at h; simpa using h.1.1
    | false => simp only [ji, cF, beq_iff_eq] at h; rw [h.1]; simp
   obtain ⟨h0, ok, cW, _⟩ := mem_ready.1 hk
   have Bq := (mem_ready.1 hi).1
   have cH : k ≠ i := fun e => by
    subst e
    have aL : k < listed.size := by
     rcases eZ k listed.size with h | h
     · exact h
     · simp [wy h] at Bq
    simp [aL] at h0
   have h1 := xq hD hi ha k (kz.1 cW).1 cH
   rw [getD_set_ne true (Ne.symm cH)] at h0
   rcases eZ k listed.size with h' | h'
   · simp [h'] at h0 h1; rw [h0] at h1; cases h1
   · simp [wy h'] at h1
theorem tT {mu : List Nat} {ops : Array Oper} {B : List Nat} {ay : St} {K : Env -> St -> Prop} {Kp : AV -> St -> Prop} : ∀ (dv : List (Bool × Nat)) (listed : Array Bool) (ρ : Env) (U : St), ji ops dv listed = true -> Dn ops listed -> (dv = [] \/ cv B ay U) -> mA C mu ops B ay K Kp dv ρ U ->
 oC C mu ops (cv B ay) K Kp dv.length listed ρ U
 | [], listed, ρ, U, hp, hD, hI, h => ⟨by simpa [ji] using hp, h⟩
 | (true, i) :: r, listed, ρ, U, hp, hD, hI, h => by
   have hI := hI.resolve_left (by simp)
   simp only [ji, cF] at hp
   obtain ⟨o, v, ho, fN, hr⟩ := h
   exact AS ho r.length listed ρ U (Region.free_spec ho hp.1.2) (by simpa using hp.1.1) hD fN hI (tT r _ _ U hp.2 (hD.set (by simpa using hp.1.1)) (.inr hI) hr)
 | (false, i) :: r, listed, ρ, U, hp, hD, hI, h => by
   have hS := hI.resolve_left (by simp)
   simp only [ji, cF, beq_iff_eq] at hp
   refine ⟨fun h0 => (by rw [hp.1] at h0; cases h0), fun j hj => ?_⟩
   have Dw := hj
   rw [hp.1, nS] at hj
   subst hj
   exact B2 (.inr hS) (fun dV af Bg hr => tT r _ dV af hp.2 (hD.set Dw) (Bg.elim (fun ha => .inl (RE hD Dw ha hp.2)) .inr) hr) h
theorem bO.wz {id : Nat} {ops : Array Oper} (mu : List Nat) (B : List Nat) (dv : List (Bool × Nat)) (hm : C.P.follows .mixedOrders = true) (cW : mz nt ops = true) (hp : (ji ops dv (Array.replicate ops.size false) && (dv.length == ops.size)) = true)
 (h : mA C mu ops B U (KQ Q) (xo Q) dv ρ U) : bO C nt ro (.region id ops true) Q ρ U := by
 simp only [cF, beq_iff_eq] at hp
 refine bO.D4 mu (cv B U) hm cW ?_
 have := tT dv _ ρ U hp.1 (Dn.none _ _) (.inr fun _ _ => rfl) h
 rw [hp.2] at this
 exact this
theorem aw.G8 {K : AV -> St -> Prop} {Kp AR : AV -> St -> Prop} (hp : ∀ v U, Kp v U -> AR v U) : ∀ (r : aw) {U : St}, r.wp C U K Kp -> r.wp C U K AR
 | .val _, _, h => h
 | .kW _ _ _, _, h => h
 | .new _ _ _, _, h => h
 | .kP _ _, _, h => h
 | .enter _ _, _, h => ad.mono h fun r U hr => by cases r <;> first | exact hr | exact hp _ _ hr
 | .yield _ _, _, h => lO.mono h fun r U hr => by cases r <;> first | exact hr | exact hp _ _ hr
 | .panic _, _, h => hp _ _ h
 | @aw.cond _ _ r, _, h => ⟨h.1, aw.G8 hp r h.2⟩
 | .bad, _, h => h
theorem jP {mu : List Nat} {ops : Array Oper} {B : List Nat} {ay : St} {K K' : Env -> St -> Prop} {Kp AR : AV -> St -> Prop} (hk : ∀ ρ U, K ρ U -> K' ρ U) (hp : ∀ v U, Kp v U -> AR v U) : ∀ (l : List (Bool × Nat)) {ρ : Env} {U : St}, mA C mu ops B ay K Kp l ρ U -> mA C mu ops B ay K' AR l ρ U
 | [], _, _, h => hk _ _ h
 | (true, i) :: r, ρ, U, h => by
   obtain ⟨o, v, h1, h2, h3⟩ := h
   exact ⟨o, v, h1, h2, jP hk hp r h3⟩
 | (false, i) :: r, ρ, U, h => by
   simp only [mA, ov] at h ⊢
   split
   · rename_i ho; rw [ho] at h; exact jP hk hp r h
   · rename_i o ho
     rw [ho] at h
     dsimp only at h
     cases hg : hZ ops ρ o.guard <;> rw [hg] at h <;> simp only [ao] at h ⊢
     exact ⟨fun e => aw.wp_mono (fun v U hv => ⟨hv.1, jP hk hp r hv.2⟩) _ (aw.G8 hp _ (h.1 e)), fun e => jP hk hp r (h.2 e)⟩
end
end Go.Rip
namespace Go.Rip
open Go.RowKit
def p5 (kk : IntKind) (a : Int) (v : AV) (kv : List AV × List AV) : List AV × List AV := gw (.int kk a) v kv.1 kv.2
theorem tM (kk : IntKind) (a b : Int) : iZ (.int kk a) (.int kk b) = decide (a < b) := by simp [iZ]
def xn (kk : IntKind) (kv : List AV × List AV) : Prop := kv.1.length = kv.2.length /\ ∀ y ∈ kv.1, ∃ n, y = .int kk n
theorem FZ (k v : AV) : ∀ ks vs : List AV, ks.length = vs.length -> (gw k v ks vs).1.length = (gw k v ks vs).2.length
 | [], [], _ => rfl
 | y :: ys, w :: ws, h => by
   simp only [gw]
   split
   · simpa using h
   · simpa using FZ k v ys ws (by simpa using h)
 | [], _ :: _, h => by simp at h
 | _ :: _, [], h => by simp at h
theorem Iu {kk : IntKind} {a : Int} {v : AV} {kv : List AV × List AV} (h : xn kk kv) : xn kk (p5 kk a v kv) :=
 ⟨FZ _ _ _ _ h.1, fun y hy => by
   rcases vX _ _ y hy with rfl | hy
   · exact ⟨a, rfl⟩
   · exact h.2 y hy⟩
theorem DM {kk : IntKind} {a b : Int} {v w : AV} (Ia : a ≠ b) : ∀ ks vs : List AV, ks.length = vs.length -> (∀ y ∈ ks, ∃ n, y = .int kk n) ->
 gw (.int kk a) v (gw (.int kk b) w ks vs).1 (gw (.int kk b) w ks vs).2 = gw (.int kk b) w (gw (.int kk a) v ks vs).1 (gw (.int kk a) v ks vs).2
 | [], [], _, _ => by
   simp only [gw, tM]
   by_cases h : a < b
   · have : ¬ b < a := by omega
     simp [h, this]
   · have : b < a := by omega
     simp [h, this]
 | y :: ys, x :: xs, h, hy => by
   obtain ⟨n, rfl⟩ := hy _ (List.mem_cons_self ..)
   have ih := DM (v := v) (w := w) Ia ys xs (by simpa using h) (fun y hm => hy y (by simp [hm]))
   simp only [gw, tM]
   by_cases h1 : a < n <;> by_cases h2 : b < n <;> by_cases h3 : a < b
   all_goals (have h4 : b < a \/ ¬ b < a := by omega)
   all_goals (rcases h4 with h4 | h4 <;> simp only [h1, h2, h3, h4, cj, cM, if_true, if_false, bH, gw, tM] <;> first | omega | (simp only [ih]; done) | rfl | (simp [gw, tM, h1, h2, h3, h4, ih]; done))
 | [], _ :: _, h, _ => by simp at h
 | _ :: _, [], h, _ => by simp at h
theorem Md {kk : IntKind} {a b : Int} {v w : AV} (Ia : a ≠ b) {kv : List AV × List AV} (h : xn kk kv) : p5 kk a v (p5 kk b w kv) = p5 kk b w (p5 kk a v kv) := DM Ia kv.1 kv.2 h.1 h.2
structure uf where
 i : Nat
 key : Int
 val : AV
def oS (kk : IntKind) (l : List uf) (kv : List AV × List AV) : List AV × List AV := l.foldl (fun kv x => p5 kk x.key x.val kv) kv
theorem xY {kk : IntKind} : ∀ (qP : List uf) (x : uf) (qQ : List uf) {kv : List AV × List AV}, xn kk kv -> (∀ y ∈ qP, y.key ≠ x.key) -> oS kk (qP ++ x :: qQ) kv = oS kk (qP ++ qQ) (p5 kk x.key x.val kv)
 | [], x, qQ, _, _, _ => rfl
 | y :: qP, x, qQ, kv, h, hk => by
   show oS kk (qP ++ x :: qQ) (p5 kk y.key y.val kv) = oS kk (qP ++ qQ) (p5 kk y.key y.val (p5 kk x.key x.val kv))
   rw [xY qP x qQ (Iu h) (fun z hz => hk z (by simp [hz])), Md (hk y (by simp)).symm h]
theorem Fl {kk : IntKind} {a : Int} : ∀ (ks : List AV) (i : Nat), (∀ y ∈ ks, ∃ n, y = .int kk n /\ n ≠ a) -> lH .i (.int kk a) ks i = some none
 | [], _, _ => rfl
 | y :: ys, i, h => by
   obtain ⟨n, rfl, hn⟩ := h _ (List.mem_cons_self ..)
   have cH : (a == n) = false := by simpa using Ne.symm hn
   simp only [lH, iw, if_true, cH, bH, if_false]
   exact Fl ys (i + 1) fun y hy => h y (by simp [hy])
theorem set_set (U : St) (b : Nat) (x y : Live) : (U.set b x).set b y = U.set b y := by
 simp only [St.set, St.mk.injEq, and_true]; funext q; split <;> rfl
theorem YN (U : St) (b : Nat) (ks vs : List AV) : (U.set b (.mp ks vs)).mp b = some (ks, vs) := by simp [St.mp, St.set]
section
variable {C : cV} {mu : List Nat} {ops : Array Oper} {B : List Nat} {ay : St} {K : Env -> St -> Prop} {Kp : AV -> St -> Prop}
def ZX (C : cV) (ops : Array Oper) (ρ : Env) (t : TypeId) (m : Nat) (kk : IntKind) (listed : Array Bool) (x : uf) : Prop := ∃ o v, ops[x.i]? = some o /\ o.op = .insert t (.tmp m) (.const (.int kk x.key)) v /\ o.dst = none /\ o.guard = none /\ ρ.ev C v = x.val /\
 ∀ e ∈ o.after, Region.binds .any e = true -> listed.getD e.on false = true
def Vv (ops : Array Oper) (listed : Array Bool) (l : List uf) : Prop := ∀ j o, ops[j]? = some o -> listed.getD j true = false -> (∃ x ∈ l, x.i = j) \/ ∀ x ∈ l, ∃ e ∈ o.after, Region.binds .any e = true /\ e.on = x.i
theorem UO {t : TypeId} {m : Nat} {kk : IntKind} {e : TypeId} (ht : p9 C.P t = some (.i, e)) {id : Nat} {ρ : Env} (hm : ρ.get m = .mp id) (hB : id ∉ B) (mm : Nat) : ∀ (n : Nat) (l : List uf) (listed : Array Bool) (U : St) (kv : List AV × List AV), l.length = n ->
 (∀ x ∈ l, listed.getD x.i true = false) -> Vv ops listed l -> l.Pairwise (fun x y => x.i ≠ y.i /\ x.key ≠ y.key) -> (∀ x ∈ l, ZX C ops ρ t m kk listed x) -> cv B ay U -> xn kk kv ->
 (∀ x ∈ l, .int kk x.key ∉ kv.1) -> (∀ lY : Array Bool, lY.size = listed.size -> (∀ j, lY.getD j true = false ↔ listed.getD j true = false /\ ¬ ∃ x ∈ l, x.i = j) -> oC C mu ops (cv B ay) K Kp mm lY ρ (U.set id (.mp (oS kk l kv).1 (oS kk l kv).2))) ->
 oC C mu ops (cv B ay) K Kp (n + mm) listed ρ (U.set id (.mp kv.1 kv.2)) := by
 intro n
 induction n with
 | zero =>
   intro l listed U kv hl Bv Du hp cW hI pY fM hK
   obtain rfl : l = [] := List.eq_nil_of_length_eq_zero hl
   rw [bW]
   exact hK listed rfl fun j => by simp
 | succ n ih =>
   intro l listed U kv hl Bv Du hp cW hI pY fM hK
   have FL : ∀ x ∈ l, x.i ∈ Region.ready .any ops listed := fun x hx => by
    obtain ⟨o, v, h1, _, _, _, _, h6⟩ := cW x hx
    exact mem_ready.2 ⟨Bv x hx, o, h1, h6⟩
   rw [show n + 1 + mm = (n + mm) + 1 by omega]
   refine ⟨fun h => ?_, fun j hj => ?_⟩
   · obtain ⟨x, l', rfl⟩ : ∃ x l', l = x :: l' := by cases l with | nil => simp at hl | cons x l' => exact ⟨x, l', rfl⟩
     have := FL x (by simp)
     rw [h] at this; cases this
   · obtain ⟨x, hx, rfl⟩ : ∃ x ∈ l, x.i = j := by
      obtain ⟨h0, oj, pE, cq⟩ := mem_ready.1 hj
      rcases Du j oj pE h0 with h | h
      · exact h
      · exfalso
        obtain ⟨x, l', rfl⟩ : ∃ x l', l = x :: l' := by cases l with | nil => simp at hl | cons x l' => exact ⟨x, l', rfl⟩
        obtain ⟨ed, he, hb, By⟩ := h x (by simp)
        have k1 := cq ed he hb
        rw [By] at k1
        have k2 := Bv x (by simp)
        rcases eZ x.i listed.size with h' | h'
        · simp [h'] at k1 k2; rw [k2] at k1; cases k1
        · simp [wy h'] at k1
     obtain ⟨o, v, h1, h2, h3, h4, h5, h6⟩ := cW x hx
     obtain ⟨qP, qQ, rfl⟩ := List.append_of_mem hx
     have hpa := hp
     rw [List.pairwise_append] at hp
     obtain ⟨p1, p2, p3⟩ := hp
     rw [List.pairwise_cons] at p2
     have JR : lH .i (.int kk x.key) kv.1 0 = some none := Fl _ _ fun y hy => by
      obtain ⟨n, rfl⟩ := pY.2 y hy
      exact ⟨n, rfl, fun e => fM x hx (by rw [<- e]; exact hy)⟩
     unfold ov
     rw [h1]
     dsimp only
     rw [h4, h2, h3]
     refine ⟨fun _ => ?_, fun h => by cases h⟩
     have hop : jh C (ph mu o) (.insert t (.tmp m) (.const (.int kk x.key)) v) ρ (U.set id (.mp kv.1 kv.2)) = .kW (.aU []) id (.mp (p5 kk x.key x.val kv).1 (p5 kk x.key x.val kv).2) := by
      show qd C.P t (ρ.ev C (.tmp m)) (ρ.ev C (.const (.int kk x.key))) (ρ.ev C v) _ = _
      rw [h5, show ρ.ev C (.tmp m) = .mp id from hm, show ρ.ev C (.const (.int kk x.key)) = .int kk x.key from rfl]
      simp only [qd, ht, YN, JR, p6, p5]
     rw [hop]
     refine ⟨.inr fun b hb => ?_, ?_⟩
     · have cH : b ≠ id := fun e => hB (e ▸ hb)
       rw [set_set]
       simp only [St.set, if_neg cH]
       exact hI b hb
     · show oC C mu ops (cv B ay) K Kp (n + mm) (listed.setIfInBounds x.i true) ρ _
       rw [set_set]
       have aL : x.i < listed.size := by
        have h0 := Bv x hx
        rcases eZ x.i listed.size with h | h
        · exact h
        · simp [wy h] at h0
       have Tq : (listed.setIfInBounds x.i true).getD x.i true = true := by simp [aL]
       have p4 : ∀ y ∈ qP ++ qQ, y ∈ qP ++ x :: qQ := fun y hy => by
        simp only [gg, fC] at hy ⊢
        rcases hy with hy | hy
        · exact .inl hy
        · exact .inr (.inr hy)
       have cH : ∀ y ∈ qP ++ qQ, x.i ≠ y.i := fun y hy => by
        rcases gg.1 hy with hy | hy
        · exact (p3 y hy x (by simp)).1.symm
        · exact (p2.1 y hy).1
       refine ih (qP ++ qQ) (listed.setIfInBounds x.i true) U (p5 kk x.key x.val kv) ?_ ?_ ?_ ?_ ?_ hI (Iu pY) ?_ ?_
       · simp at hl ⊢; omega
       · intro y hy
         rw [getD_set_ne true (cH y hy)]
         exact Bv y (p4 y hy)
       · intro j oj pE h0
         have hjx : x.i ≠ j := fun e => by subst e; rw [Tq] at h0; cases h0
         rw [getD_set_ne true hjx] at h0
         rcases Du j oj pE h0 with ⟨y, hy, rfl⟩ | h
         · left
           refine ⟨y, ?_, rfl⟩
           simp only [gg, fC] at hy ⊢
           rcases hy with hy | rfl | hy
           · exact .inl hy
           · exact absurd rfl hjx
           · exact .inr hy
         · right
           exact fun y hy => h y (p4 y hy)
       · rw [List.pairwise_append]
         exact ⟨p1, p2.2, fun y hy z hz => p3 y hy z (by simp [hz])⟩
       · intro y hy
         obtain ⟨o', v', q1, q2, q3, q4, q5, q6⟩ := cW y (by simp only [gg, fC] at hy ⊢; rcases hy with hy | hy; exact .inl hy; exact .inr (.inr hy))
         exact ⟨o', v', q1, q2, q3, q4, q5, fun ed he hb => getD_set_true (q6 ed he hb)⟩
       · intro y hy mv
         rcases vX _ _ _ mv with e | e
         · simp only [AV.int.injEq, true_and] at e
           rcases gg.1 hy with hy | hy
           · exact (p3 y hy x (by simp)).2 e
           · exact (p2.1 y hy).2 e.symm
         · exact fM y (by simp only [gg, fC] at hy ⊢; rcases hy with hy | hy; exact .inl hy; exact .inr (.inr hy)) e
       · rw [<- xY qP x qQ pY (fun y hy => (p3 y hy x (by simp)).2)]
         intro lY dT tI
         refine hK lY (by rw [dT]; simp) fun j => ?_
         rw [tI j]
         by_cases e : x.i = j
         · subst e
           rw [Tq]
           constructor
           · rintro ⟨h, _⟩; cases h
           · rintro ⟨_, h⟩; exact absurd ⟨x, by simp, rfl⟩ h
         · rw [getD_set_ne true e]
           refine and_congr_right fun _ => not_congr ?_
           constructor
           · rintro ⟨y, hy, rfl⟩; exact ⟨y, p4 y hy, rfl⟩
           · rintro ⟨y, hy, rfl⟩
             refine ⟨y, ?_, rfl⟩
             simp only [gg, fC] at hy ⊢
             rcases hy with hy | rfl | hy
             · exact .inl hy
             · exact absurd rfl e
             · exact .inr hy
def oX (ops : Array Oper) : List (Bool × Nat) -> Array Bool -> Option (Array Bool)
 | [], listed => some listed
 | (true, i) :: r, listed => cond ((Region.ready .any ops listed).contains i && Region.free .any ops listed i) (oX ops r (listed.setIfInBounds i true)) none
 | (false, i) :: r, listed => cond (Region.ready .any ops listed == [i] && !kO ops i) (oX ops r (listed.setIfInBounds i true)) none
theorem Ax {m : Nat} {QA : Array Bool} {K0 : Env -> St -> Prop} (sR : ∀ ρ U, Dn ops QA -> cv B ay U -> K0 ρ U -> oC C mu ops (cv B ay) K Kp m QA ρ U) : ∀ (dv : List (Bool × Nat)) (listed : Array Bool) (ρ : Env) (U : St), oX ops dv listed = some QA -> Dn ops listed -> cv B ay U -> mA C mu ops B ay K0 Kp dv ρ U ->
 oC C mu ops (cv B ay) K Kp (dv.length + m) listed ρ U
 | [], listed, ρ, U, hp, hD, hI, h => by
   simp only [oX, iE] at hp
   subst hp
   simpa using sR ρ U hD hI h
 | (true, i) :: r, listed, ρ, U, hp, hD, hI, h => by
   simp only [oX] at hp
   cases hc : ((Region.ready .any ops listed).contains i && Region.free .any ops listed i) with
   | false => rw [hc] at hp; cases hp
   | true =>
     rw [hc] at hp
     simp only [cF] at hc
     obtain ⟨o, v, ho, fN, hr⟩ := h
     have := AS ho (r.length + m) listed ρ U (Region.free_spec ho hc.2) (by simpa using hc.1) hD fN hI (Ax sR r _ _ U hp (hD.set (by simpa using hc.1)) hI hr)
     rw [show ((true, i) :: r).length + m = r.length + m + 1 by simp; omega]
     exact this
 | (false, i) :: r, listed, ρ, U, hp, hD, hI, h => by
   simp only [oX] at hp
   cases hc : (Region.ready .any ops listed == [i] && !kO ops i) with
   | false => rw [hc] at hp; cases hp
   | true =>
     rw [hc] at hp
     simp only [cF, beq_iff_eq, Bool.not_eq_true'] at hc
     obtain ⟨hc, LR⟩ := hc
     rw [show ((false, i) :: r).length + m = r.length + m + 1 by simp; omega]
     refine ⟨fun h0 => (by rw [hc] at h0; cases h0), fun j hj => ?_⟩
     have Dw := hj
     rw [hc, nS] at hj
     subst hj
     exact B2 (.inr hI) (fun dV af Bg hr => Ax sR r _ dV af hp (hD.set Dw) (Bg.resolve_left (by rw [LR]; simp)) hr) h
structure nj where
 t : TypeId
 m : Nat
 kk : IntKind
 l : List Nat
def JZ (I : nj) (o : Oper) : Option (Int × Operand) := match o.op, o.dst, o.guard with
 | .insert t (.tmp m) (.const (.int kk a)) v, none, none => cond (Nat.beq t I.t && (Nat.beq m I.m && decide (kk = I.kk))) (some (a, v)) none
 | _, _, _ => none
def lT (ops : Array Oper) (I : nj) (i : Nat) : Option (Int × Operand) := (ops[i]?).bind (JZ I)
def Er (listed : Array Bool) (o : Oper) : Bool := o.after.toList.all fun e => !Region.binds .any e || listed.getD e.on false
def Cw (ops : Array Oper) (I : nj) (listed : Array Bool) : Bool := (List.range ops.size).all fun j => listed.getD j true || (I.l.contains j || (match ops[j]? with
 | some o => I.l.all fun i => o.after.toList.any fun e => Region.binds .any e && Nat.beq e.on i
 | none => true))
def pG (ops : Array Oper) (I : nj) (listed : Array Bool) : Bool :=
 Cw ops I listed && (I.l.all (fun i => !listed.getD i true) && (Nat.beq listed.size ops.size && (I.l.all (fun i => Nat.blt i ops.size && ((lT ops I i).isSome && (match ops[i]? with | some o => Er listed o | none => false)))
  && (decide I.l.Nodup && decide (I.l.map fun i => ((lT ops I i).map (·.1)).getD 0).Nodup))))
def fV (listed : Array Bool) (l : List Nat) : Array Bool := l.foldl (fun a i => a.setIfInBounds i true) listed
theorem uF : ∀ (l : List Nat) (a : Array Bool), (fV a l).size = a.size
 | [], _ => rfl
 | i :: l, a => by
   show (fV (a.setIfInBounds i true) l).size = _
   rw [uF l]; simp
theorem wC : ∀ (l : List Nat) (a : Array Bool) (j : Nat), (fV a l).getD j true = false ↔ a.getD j true = false /\ j ∉ l
 | [], _, _ => by simp [fV]
 | i :: l, a, j => by
   show (fV (a.setIfInBounds i true) l).getD j true = false ↔ _
   rw [wC l]
   by_cases e : i = j
   · subst e
     have : (a.setIfInBounds i true).getD i true = true := by
      by_cases h : i < a.size
      · simp [h]
      · simp [wy (Nat.le_of_not_lt h)]
     rw [this]; simp
   · rw [getD_set_ne true e]; simp [Ne.symm e]
def mZ (C : cV) (ops : Array Oper) (ρ : Env) (I : nj) : List uf := I.l.filterMap fun i => (lT ops I i).map fun p => ⟨i, p.1, ρ.ev C p.2⟩
def JY (C : cV) (ops : Array Oper) (B : List Nat) (I : nj) (K : Env -> St -> Prop) (ρ : Env) (U : St) : Prop :=
 ∃ id, ρ.get I.m = .mp id /\ U.mp id = some ([], []) /\ id ∉ B /\ K ρ (U.set id (.mp (oS I.kk (mZ C ops ρ I) ([], [])).1 (oS I.kk (mZ C ops ρ I) ([], [])).2))
theorem J0 {I : nj} {o : Oper} {a : Int} {v : Operand} (h : JZ I o = some (a, v)) : o.op = .insert I.t (.tmp I.m) (.const (.int I.kk a)) v /\ o.dst = none /\ o.guard = none := by
 unfold JZ at h
 split at h
 · rename_i t m kk a' v' h1 h2 h3
   cases hc : (Nat.beq t I.t && (Nat.beq m I.m && decide (kk = I.kk))) with
   | false => rw [hc] at h; cases h
   | true =>
     rw [hc] at h
     simp only [cF, ej] at hc
     obtain ⟨e1, e2, e3⟩ := hc
     have e1 := eT e1
     have e2 := eT e2
     simp only [cond_true, iE, lq] at h
     obtain ⟨rfl, rfl⟩ := h
     exact ⟨by rw [h1, e1, e2, e3], h2, h3⟩
 · cases h
theorem HK {U : St} {id : Nat} {kv : List AV × List AV} (h : U.mp id = some kv) : U.set id (.mp kv.1 kv.2) = U := by
 have := St.oV.1 h
 simp only [St.set]
 cases U with
 | mk live nb =>
   simp only [St.mk.injEq, and_true]
   funext q
   split
   · rename_i e; subst e; exact this.symm
   · rfl
theorem Dn.fV {I : nj} {listed : Array Bool} (hD : Dn ops listed) (hc : pG ops I listed = true) : Dn ops (Go.Rip.fV listed I.l) := by
 simp only [pG, cF, eY] at hc
 obtain ⟨h0, h1, h2, h3, _⟩ := hc
 have h2 := eT h2
 have mono : ∀ (l : List Nat) (a : Array Bool) (j : Nat), a.getD j false = true -> (Go.Rip.fV a l).getD j false = true := fun l => by
  induction l with
  | nil => exact fun a j h => h
  | cons i l ih => exact fun a j h => ih _ j (getD_set_true h)
 intro m o ho hl e he hb
 by_cases hm : m ∈ I.l
 · have := (h3 m hm).2.2
   rw [ho] at this
   simp only [Er, eY, ln] at this
   have := this e (by simpa using he)
   rw [hb] at this
   exact mono _ _ _ (by simpa using this)
 · have aL : m < listed.size := by rw [h2]; exact (kz.1 ho).1
   have hlm : listed.getD m false = true := by
    cases hh : listed.getD m true with
    | false =>
      have k := (wC I.l listed m).2 ⟨hh, hm⟩
      have hs : m < (Go.Rip.fV listed I.l).size := by rw [uF]; exact aL
      simp [hs] at k hl
      rw [k] at hl; cases hl
    | true => simp [aL] at hh ⊢; exact hh
   exact mono _ _ _ (hD m o ho hlm e he hb)
theorem Me {I : nj} {listed : Array Bool} {e : TypeId} {mm : Nat} {K1 : Env -> St -> Prop} (ht : p9 C.P I.t = some (.i, e)) (hc : pG ops I listed = true)
 (hK1 : ∀ ρ U, Dn ops (fV listed I.l) -> cv B ay U -> K1 ρ U -> oC C mu ops (cv B ay) K Kp mm (fV listed I.l) ρ U) : ∀ ρ U, Dn ops listed -> cv B ay U -> JY C ops B I K1 ρ U -> oC C mu ops (cv B ay) K Kp (I.l.length + mm) listed ρ U := by
 rintro ρ U hD hI ⟨id, hm, FD, hB, hK⟩
 have hDs := hD.fV hc
 simp only [pG, cF, eY, ej, Bool.not_eq_true'] at hc
 obtain ⟨h0, h1, h2, h3, h4, h5⟩ := hc
 have h2 := eT h2
 have JU : ∀ i ∈ I.l, ∃ a v, lT ops I i = some (a, v) := fun i hi => by
  have := (h3 i hi).2.1
  obtain ⟨p, hp⟩ := Option.isSome_iff_exists.1 this
  exact ⟨p.1, p.2, hp⟩
 have mv : ∀ x, x ∈ mZ C ops ρ I ↔ ∃ i ∈ I.l, ∃ a v, lT ops I i = some (a, v) /\ x = ⟨i, a, ρ.ev C v⟩ := fun x => by
  simp only [mZ, List.mem_filterMap, oI]
  constructor
  · rintro ⟨i, hi, ⟨a, v⟩, hp, rfl⟩; exact ⟨i, hi, a, v, hp, rfl⟩
  · rintro ⟨i, hi, a, v, hp, rfl⟩; exact ⟨i, hi, (a, v), hp, rfl⟩
 have lD : ∀ j, (∃ x ∈ mZ C ops ρ I, x.i = j) ↔ j ∈ I.l := fun j => by
  constructor
  · rintro ⟨x, hx, rfl⟩
    obtain ⟨i, hi, a, v, hp, rfl⟩ := (mv _).1 hx
    exact hi
  · intro hj
    obtain ⟨a, v, hp⟩ := JU j hj
    exact ⟨_, (mv _).2 ⟨j, hj, a, v, hp, rfl⟩, rfl⟩
 rw [<- HK FD]
 have hlen : (mZ C ops ρ I).length = I.l.length := by
  have : ∀ l : List Nat, (∀ i ∈ l, ∃ a v, lT ops I i = some (a, v)) -> (l.filterMap fun i => (lT ops I i).map fun p => (⟨i, p.1, ρ.ev C p.2⟩ : uf)).length = l.length := fun l => by
   induction l with
   | nil => intro _; rfl
   | cons i l ih =>
     intro h
     obtain ⟨a, v, hp⟩ := h i (by simp)
     simp only [List.filterMap_cons, hp, Option.map_some, lk, ih fun j hj => h j (by simp [hj])]
  exact this _ JU
 have hpw : (mZ C ops ρ I).Pairwise (fun x y => x.i ≠ y.i /\ x.key ≠ y.key) := by
  have : ∀ l : List Nat, (∀ i ∈ l, ∃ a v, lT ops I i = some (a, v)) -> l.Nodup -> (l.map fun i => ((lT ops I i).map (·.1)).getD 0).Nodup -> (l.filterMap fun i => (lT ops I i).map fun p => (⟨i, p.1, ρ.ev C p.2⟩ : uf)).Pairwise (fun x y => x.i ≠ y.i /\ x.key ≠ y.key) := fun l => by
   induction l with
   | nil => intro _ _ _; exact List.Pairwise.nil
   | cons i l ih =>
     intro h hn hk
     obtain ⟨a, v, hp⟩ := h i (by simp)
     rw [List.nodup_cons] at hn
     rw [et, List.nodup_cons] at hk
     simp only [List.filterMap_cons, hp, Option.map_some]
     refine List.Pairwise.cons (fun y hy => ?_) (ih (fun j hj => h j (by simp [hj])) hn.2 hk.2)
     rw [List.mem_filterMap] at hy
     obtain ⟨j, hj, hjy⟩ := hy
     rw [oI] at hjy
     obtain ⟨p, xT, rfl⟩ := hjy
     refine ⟨fun e => hn.1 (by have e : i = j := e; rw [e]; exact hj), fun e => hk.1 ?_⟩
     have e : a = p.1 := e
     refine List.mem_map.2 ⟨j, hj, ?_⟩
     rw [xT, hp]; simp [e]
  exact this _ JU h4 h5
 refine UO (kk := I.kk) ht hm hB mm _ (mZ C ops ρ I) listed U ([], []) hlen ?_ ?_ hpw ?_ hI ⟨rfl, fun y hy => by cases hy⟩ (fun x hx => by simp) ?_
 · intro x hx
   exact h1 x.i ((lD x.i).1 ⟨x, hx, rfl⟩)
 · intro j o ho hj
   have aL : j < ops.size := (kz.1 ho).1
   simp only [Cw, eY, List.mem_range, ln] at h0
   have := h0 j aL
   rw [ho, hj] at this
   rcases this with h | h | h
   · cases h
   · left; exact (lD j).2 (by simpa using h)
   · right
     intro x hx
     simp only [eY] at h
     have := h x.i ((lD x.i).1 ⟨x, hx, rfl⟩)
     rw [List.any_eq_true] at this
     obtain ⟨ed, he, hb⟩ := this
     simp only [cF] at hb
     exact ⟨ed, by simpa using he, hb.1, eT hb.2⟩
 · intro x hx
   obtain ⟨i, hi, a, v, hp, rfl⟩ := (mv _).1 hx
   unfold lT at hp
   rw [Option.bind_eq_some_iff] at hp
   obtain ⟨o, ho, hp⟩ := hp
   obtain ⟨q1, q2, q3⟩ := J0 hp
   refine ⟨o, v, ho, q1, q2, q3, rfl, fun ed he hb => ?_⟩
   have := (h3 i hi).2.2
   rw [ho] at this
   simp only [Er, eY, ln] at this
   have := this ed (by simpa using he)
   rw [hb] at this
   simpa using this
 · intro lY dT tI
   have e : lY = fV listed I.l := by
    apply Array.ext (by rw [uF, dT])
    intro j tG mK
    have k1 := tI j
    have k2 := wC I.l listed j
    rw [lD] at k1
    have k3 : lY.getD j true = false ↔ (fV listed I.l).getD j true = false := k1.trans k2.symm
    have e1 : lY.getD j true = lY[j] := by simp [tG]
    have e2 : (fV listed I.l).getD j true = (fV listed I.l)[j] := by simp [mK]
    rw [e1, e2] at k3
    cases h1 : lY[j] <;> cases h2 : (fV listed I.l)[j] <;> simp_all
   rw [e]
   refine hK1 ρ _ hDs ?_ hK
   intro b hb
   have cH : b ≠ id := fun e => hB (e ▸ hb)
   simp only [St.set, if_neg cH]
   exact hI b hb
def tV (P : Program) (ops : Array Oper) (dv : List (Bool × Nat)) (I : nj) (post : List (Bool × Nat)) : Bool :=
 (match oX ops dv (Array.replicate ops.size false) with | some l => pG ops I l && ji ops post (fV l I.l) | none => false) && (Nat.beq (dv.length + (I.l.length + post.length)) ops.size && (match p9 P I.t with | some (.i, _) => true | _ => false))
theorem bO.MX {nt id : Nat} {ro : Ro} {Q : Ex -> Env -> St -> Prop} {ρ : Env} {U : St} (dv : List (Bool × Nat)) (I : nj) (post : List (Bool × Nat)) (hm : C.P.follows .mixedOrders = true) (cW : mz nt ops = true) (hp : tV C.P ops dv I post = true)
 (h : mA C mu ops B U (JY C ops B I (mA C mu ops B U (KQ Q) (xo Q) post)) (xo Q) dv ρ U) : bO C nt ro (.region id ops true) Q ρ U := by
 simp only [tV, cF] at hp
 obtain ⟨h1, h2, h3⟩ := hp
 have h2 := eT h2
 split at h3
 · rename_i e ht
   split at h1
   · rename_i l hl
     rw [cF] at h1
     refine bO.D4 mu (cv B U) hm cW ?_
     have := Ax (Me ht h1.1 (fun dV af hD' Bg hk => tT post _ dV af h1.2 hD' (.inr Bg) hk)) dv _ ρ U hl (Dn.none _ _) (fun _ _ => rfl) h
     rw [h2] at this
     exact this
   · cases h1
 · cases h3
end
end Go.Rip
namespace Go.Rip
open Go.RowKit
structure Row where
 d : Nat
 l : Nat
 a : Nat
def Js : Option Nat -> Nat
 | some d => 2 ^ d
 | none => 0
def o6 : List Nat -> Nat
 | [] => 0
 | d :: l => Nat.lor (2 ^ d) (o6 l)
theorem dF (k : Nat) : ∀ l : List Nat, (o6 l).testBit k = true ↔ k ∈ l
 | [] => by simp [o6]
 | d :: l => by
   show (2 ^ d ||| o6 l).testBit k = true ↔ _
   rw [Nat.testBit_or, Nat.testBit_two_pow, ln, dF k l]
   simp [eq_comm]
theorem jn (k : Nat) (o : Option Nat) : (Js o).testBit k = true ↔ o = some k := by
 cases o with
 | none => simp [Js]
 | some d => simp [Js, Nat.testBit_two_pow]
def xp (o : Oper) : List Nat := (o.after.toList.filter fun e => Region.binds .any e).map (·.on)
def rowOf (ops : Array Oper) (o : Oper) : Row := ⟨Js o.dst, o6 (o.looksAt ops), o6 (xp o)⟩
def mH (a b : Nat) : Bool := Nat.beq (Nat.land a b) a
def JA (a b : Nat) : Bool := Nat.beq (Nat.land a b) 0
theorem rL {a b : Nat} (h : mH a b = true) (k : Nat) (hk : a.testBit k = true) : b.testBit k = true := by
 have e : a &&& b = a := eT h
 have := congrArg (fun n => n.testBit k) e
 simp only [Nat.testBit_and, hk, Bool.true_and] at this
 exact this
theorem px {a b : Nat} (h : JA a b = true) (k : Nat) (hk : a.testBit k = true) : ¬ b.testBit k = true := by
 have e : a &&& b = 0 := eT h
 have := congrArg (fun n => n.testBit k) e
 simp only [Nat.testBit_and, hk, Bool.true_and, Nat.zero_testBit] at this
 simp [this]
def hasB (m i : Nat) : Bool := Nat.beq (Nat.land (Nat.shiftRight m i) 1) 1
theorem mY (m i : Nat) : hasB m i = m.testBit i := by
 have e : Nat.land (Nat.shiftRight m i) 1 = 1 &&& (m >>> i) := Nat.and_comm _ _
 unfold hasB Nat.testBit
 rw [e]
 cases h : Nat.beq (1 &&& m >>> i) 1 with
 | true => have := eT h; rw [this]; rfl
 | false =>
   have h1 : (1 &&& m >>> i) ≠ 1 := fun e => by rw [e] at h; simp at h
   have h2 : (1 &&& m >>> i) = 0 := by
    have : 1 &&& (m >>> i) = (m >>> i) % 2 := Nat.one_and_eq_mod_two _
    omega
   rw [h2]; rfl
def ED (i : Nat) (x y : Row) : Bool := hasB y.a i || (JA x.d y.l && (JA x.d y.d && JA y.d x.l))
def Ac (done i : Nat) (x : Row) : List Row -> Nat -> Bool
 | [], _ => true
 | y :: r, j => (Nat.beq j i || (hasB done j || ED i x y)) && Ac done i x r (j + 1)
def Ab (done i : Nat) : List Row -> Nat -> Bool
 | [], _ => true
 | y :: r, j => (Nat.beq j i || (hasB done j || !mH y.a done)) && Ab done i r (j + 1)
def wo (rows : List Row) (n : Nat) : List (Bool × Nat) -> Nat -> Bool
 | [], done => Nat.beq done (2 ^ n - 1)
 | (true, i) :: r, done => match rows[i]? with
   | some x => !hasB done i && (mH x.a done && (Ac done i x rows 0 && wo rows n r (Nat.lor done (2 ^ i))))
   | none => false
 | (false, i) :: r, done => match rows[i]? with
   | some x => !hasB done i && (mH x.a done && (Ab done i rows 0 && wo rows n r (Nat.lor done (2 ^ i))))
   | none => false
theorem xu {done i : Nat} {x : Row} : ∀ {l : List Row} {j : Nat}, Ac done i x l j = true -> ∀ k y, l[k]? = some y -> (j + k = i \/ done.testBit (j + k) = true \/ ED i x y = true)
 | [], _, _, k, y, hy => by simp at hy
 | z :: r, j, h, k, y, hy => by
   simp only [Ac, cF, ln, mY] at h
   cases k with
   | zero =>
     simp at hy; subst hy
     rcases h.1 with h | h | h
     · exact .inl (eT h)
     · exact .inr (.inl h)
     · exact .inr (.inr h)
   | succ k =>
     have := xu h.2 k y (by simpa using hy)
     rw [show j + (k + 1) = j + 1 + k by omega]; exact this
theorem xr {done i : Nat} : ∀ {l : List Row} {j : Nat}, Ab done i l j = true -> ∀ k y, l[k]? = some y -> (j + k = i \/ done.testBit (j + k) = true \/ mH y.a done = false)
 | [], _, _, k, y, hy => by simp at hy
 | z :: r, j, h, k, y, hy => by
   simp only [Ab, cF, ln, mY, Bool.not_eq_true'] at h
   cases k with
   | zero =>
     simp at hy; subst hy
     rcases h.1 with h | h | h
     · exact .inl (eT h)
     · exact .inr (.inl h)
     · exact .inr (.inr h)
   | succ k =>
     have := xr h.2 k y (by simpa using hy)
     rw [show j + (k + 1) = j + 1 + k by omega]; exact this
def hH (n : Nat) (listed : Array Bool) (done : Nat) : Prop := listed.size = n /\ ∀ k, k < n -> listed[k]? = some (done.testBit k)
section
variable {ops : Array Oper} {listed : Array Bool} {done : Nat}
theorem hH.get (h : hH ops.size listed done) {k : Nat} (hk : k < ops.size) (d : Bool) : listed.getD k d = done.testBit k := by
 have := h.2 k hk
 simp [this]
theorem hH.out (h : hH ops.size listed done) {k : Nat} (hk : ¬ k < ops.size) (d : Bool) : listed.getD k d = d := by
 have : listed[k]? = none := wy (by rw [h.1]; omega)
 simp [this]
theorem hH.set (h : hH ops.size listed done) (i : Nat) : hH ops.size (listed.setIfInBounds i true) (Nat.lor done (2 ^ i)) := by
 refine ⟨by simp [h.1], fun k hk => ?_⟩
 show _ = some ((done ||| 2 ^ i).testBit k)
 rw [Nat.testBit_or, Nat.testBit_two_pow]
 by_cases e : i = k
 · subst e
   have : i < listed.size := by rw [h.1]; exact hk
   simp [Array.getElem?_setIfInBounds, this]
 · rw [Array.getElem?_setIfInBounds_ne e, h.2 k hk]
   simp [e]
theorem wB {i : Nat} {x : Row} (h : (ops.toList.map (rowOf ops))[i]? = some x) : ∃ o, ops[i]? = some o /\ x = rowOf ops o := by
 rw [ma, oI] at h
 obtain ⟨o, ho, e⟩ := h
 exact ⟨o, by simpa using ho, e.symm⟩
theorem sx {o : Oper} {k : Nat} : k ∈ xp o ↔ ∃ e ∈ o.after, Region.binds .any e = true /\ e.on = k := by
 simp [xp, and_assoc]
theorem pM (h : hH ops.size listed done) {j : Nat} {o : Oper} (ho : ops[j]? = some o) : j ∈ Region.ready .any ops listed ↔ done.testBit j = false /\ ∀ k, k ∈ xp o -> k < ops.size /\ done.testBit k = true := by
 have hj : j < ops.size := (kz.1 ho).1
 rw [mem_ready, h.get hj]
 refine and_congr_right fun _ => ⟨?_, ?_⟩
 · rintro ⟨o', Tg, cq⟩ k hk
   rw [ho] at Tg; cases Tg
   obtain ⟨e, he, hb, rfl⟩ := sx.1 hk
   have := cq e he hb
   by_cases hk : e.on < ops.size
   · rw [h.get hk] at this; exact ⟨hk, this⟩
   · rw [h.out hk] at this; cases this
 · intro cq
   refine ⟨o, ho, fun e he hb => ?_⟩
   obtain ⟨hk, ht⟩ := cq e.on (sx.2 ⟨e, he, hb, rfl⟩)
   rw [h.get hk]; exact ht
theorem El {i : Nat} {o : Oper} (hm : hH ops.size listed done) (ho : ops[i]? = some o) (h3 : Ac done i (rowOf ops o) (ops.toList.map (rowOf ops)) 0 = true) : Region.free .any ops listed i = true := by
 simp only [Region.free, ho, eY, List.mem_range, ln]
 intro j hj
 obtain ⟨oj, pE⟩ : ∃ oj, ops[j]? = some oj := ⟨ops[j], by simp [hj]⟩
 rw [pE]
 have hy : (ops.toList.map (rowOf ops))[j]? = some (rowOf ops oj) := by
  rw [ma]; simp [pE]
 rcases xu h3 j _ hy with e | e | e
 · left; left; simp at e; simp [e]
 · left; right; rw [hm.get hj]; simpa using e
 · right
   simp only [ED, ln, cF, mY] at e
   show ((oj.after.any fun e => Region.binds .any e && e.on == i) || o.apart ops oj) = true
   rw [ln]
   rcases e with e | ⟨e1, e2, e3⟩
   · left
     have := (dF i _).1 e
     obtain ⟨ed, he, hb, By⟩ := sx.1 this
     rw [Array.any_eq_true']
     exact ⟨ed, he, by simp [hb, By]⟩
   · right
     have k1 : ∀ d, o.dst = some d -> d ∉ oj.looksAt ops := fun d hd hm => px e1 d ((jn d _).2 hd) ((dF d _).2 hm)
     have k2 : ∀ d, o.dst = some d -> oj.dst ≠ some d := fun d hd hm => px e2 d ((jn d _).2 hd) ((jn d _).2 hm)
     have k3 : ∀ d, oj.dst = some d -> d ∉ o.looksAt ops := fun d hd hm => px e3 d ((jn d _).2 hd) ((dF d _).2 hm)
     unfold Oper.apart
     cases zE : o.dst <;> cases pD : oj.dst <;> simp only [cF, Bool.not_eq_true', bne_iff_ne, ne_eq, Bool.and_self, and_self, true_and, and_true]
     · rename_i d; simpa using k3 d pD
     · rename_i d; exact ⟨by simpa using k1 d zE, by simp⟩
     · rename_i d d'
       refine ⟨⟨by simpa using k1 d zE, fun e => k2 d zE (by rw [pD]; exact e)⟩, by simpa using k3 d' pD⟩
theorem yx {i : Nat} {o : Oper} (hm : hH ops.size listed done) (ho : ops[i]? = some o) (h1 : done.testBit i = false) (sub : ∀ k, k ∈ xp o -> k < ops.size /\ done.testBit k = true) (h3 : Ab done i (ops.toList.map (rowOf ops)) 0 = true) : Region.ready .any ops listed = [i] := by
 have key : ∀ j, j ∈ Region.ready .any ops listed -> j = i := fun j hj => by
  obtain ⟨h0, oj, pE, _⟩ := mem_ready.1 hj
  have hr := (pM hm pE).1 hj
  have Fy : j < ops.size := (kz.1 pE).1
  have hy : (ops.toList.map (rowOf ops))[j]? = some (rowOf ops oj) := by
   rw [ma]; simp [pE]
  rcases xr h3 j _ hy with e | e | e
  · simpa using e
  · rw [bW] at e; rw [hr.1] at e; cases e
  · exfalso
    have : mH (rowOf ops oj).a done = true := by
     unfold mH
     have e2 : (rowOf ops oj).a &&& done = (rowOf ops oj).a := by
      apply Nat.eq_of_testBit_eq
      intro k
      rw [Nat.testBit_and]
      cases hk : (rowOf ops oj).a.testBit k with
      | false => rfl
      | true => rw [(hr.2 k ((dF k _).1 hk)).2]; rfl
     show Nat.beq ((rowOf ops oj).a &&& done) _ = true
     rw [e2]; simp
    rw [this] at e; cases e
 have mv := (pM hm ho).2 ⟨h1, sub⟩
 have hnd : (Region.ready .any ops listed).Nodup := (List.Pairwise.filter _ List.nodup_range)
 match hl : Region.ready .any ops listed with
 | [] => rw [hl] at mv; cases mv
 | [x] => rw [hl] at key; rw [key x (by simp)]
 | x :: y :: zs =>
   rw [hl] at key hnd
   have e1 := key x (by simp)
   have e2 := key y (by simp)
   subst e1; subst e2
   simp at hnd
theorem wq : ∀ (dv : List (Bool × Nat)) (listed : Array Bool) (done : Nat), hH ops.size listed done -> done < 2 ^ ops.size -> wo (ops.toList.map (rowOf ops)) ops.size dv done = true -> ji ops dv listed = true
 | [], listed, done, hm, aL, h => by
   have e : done = 2 ^ ops.size - 1 := eT h
   simp only [ji, List.isEmpty_iff]
   rw [List.eq_nil_iff_forall_not_mem]
   intro j hj
   obtain ⟨h0, o, ho, _⟩ := mem_ready.1 hj
   have Fy : j < ops.size := (kz.1 ho).1
   rw [hm.get Fy, e, Nat.testBit_two_pow_sub_one] at h0
   simp [Fy] at h0
 | (true, i) :: r, listed, done, hm, aL, h => by
   simp only [wo] at h
   split at h
   · rename_i x hx
     obtain ⟨o, ho, rfl⟩ := wB hx
     simp only [cF, Bool.not_eq_true', mY] at h
     obtain ⟨h1, h2, h3, h4⟩ := h
     have hi : i < ops.size := (kz.1 ho).1
     have jM : Nat.lor done (2 ^ i) < 2 ^ ops.size := Nat.or_lt_two_pow aL (Nat.pow_lt_pow_right (by omega) hi)
     have sub : ∀ k, k ∈ xp o -> k < ops.size /\ done.testBit k = true := fun k hk => by
      have := rL h2 k ((dF k _).2 hk)
      refine ⟨?_, this⟩
      rcases eZ k ops.size with h | h
      · exact h
      · rw [Nat.testBit_lt_two_pow (Nat.lt_of_lt_of_le aL (Nat.pow_le_pow_right (by omega) h))] at this; cases this
     simp only [ji, cF]
     refine ⟨⟨?_, ?_⟩, wq r _ _ (hm.set i) jM h4⟩
     · simp only [List.contains_iff_mem]
       exact (pM hm ho).2 ⟨h1, sub⟩
     · simp only [Region.free, ho, eY, List.mem_range, ln]
       intro j hj
       obtain ⟨oj, pE⟩ : ∃ oj, ops[j]? = some oj := ⟨ops[j], by simp [hj]⟩
       rw [pE]
       have hy : (ops.toList.map (rowOf ops))[j]? = some (rowOf ops oj) := by
        rw [ma]; simp [pE]
       rcases xu h3 j _ hy with e | e | e
       · left; left; simp at e; simp [e]
       · left; right; rw [hm.get hj]; simpa using e
       · right
         simp only [ED, ln, cF, mY] at e
         show ((oj.after.any fun e => Region.binds .any e && e.on == i) || o.apart ops oj) = true
         rw [ln]
         rcases e with e | ⟨e1, e2, e3⟩
         · left
           have := (dF i _).1 e
           obtain ⟨ed, he, hb, By⟩ := sx.1 this
           rw [Array.any_eq_true']
           exact ⟨ed, he, by simp [hb, By]⟩
         · right
           have k1 : ∀ d, o.dst = some d -> d ∉ oj.looksAt ops := fun d hd hm => px e1 d ((jn d _).2 hd) ((dF d _).2 hm)
           have k2 : ∀ d, o.dst = some d -> oj.dst ≠ some d := fun d hd hm => px e2 d ((jn d _).2 hd) ((jn d _).2 hm)
           have k3 : ∀ d, oj.dst = some d -> d ∉ o.looksAt ops := fun d hd hm => px e3 d ((jn d _).2 hd) ((dF d _).2 hm)
           unfold Oper.apart
           cases zE : o.dst <;> cases pD : oj.dst <;> simp only [cF, Bool.not_eq_true', bne_iff_ne, ne_eq, Bool.and_self, and_self, true_and, and_true]
           · rename_i d; simpa using k3 d pD
           · rename_i d; exact ⟨by simpa using k1 d zE, by simp⟩
           · rename_i d d'
             refine ⟨⟨by simpa using k1 d zE, fun e => k2 d zE (by rw [pD]; exact e)⟩, by simpa using k3 d' pD⟩
   · cases h
 | (false, i) :: r, listed, done, hm, aL, h => by
   simp only [wo] at h
   split at h
   · rename_i x hx
     obtain ⟨o, ho, rfl⟩ := wB hx
     simp only [cF, Bool.not_eq_true', mY] at h
     obtain ⟨h1, h2, h3, h4⟩ := h
     have hi : i < ops.size := (kz.1 ho).1
     have jM : Nat.lor done (2 ^ i) < 2 ^ ops.size := Nat.or_lt_two_pow aL (Nat.pow_lt_pow_right (by omega) hi)
     have sub : ∀ k, k ∈ xp o -> k < ops.size /\ done.testBit k = true := fun k hk => by
      have := rL h2 k ((dF k _).2 hk)
      refine ⟨?_, this⟩
      rcases eZ k ops.size with h | h
      · exact h
      · rw [Nat.testBit_lt_two_pow (Nat.lt_of_lt_of_le aL (Nat.pow_le_pow_right (by omega) h))] at this; cases this
     simp only [ji, cF, beq_iff_eq]
     refine ⟨?_, wq r _ _ (hm.set i) jM h4⟩
     have key : ∀ j, j ∈ Region.ready .any ops listed -> j = i := fun j hj => by
      obtain ⟨h0, oj, pE, _⟩ := mem_ready.1 hj
      have hr := (pM hm pE).1 hj
      have Fy : j < ops.size := (kz.1 pE).1
      have hy : (ops.toList.map (rowOf ops))[j]? = some (rowOf ops oj) := by
       rw [ma]; simp [pE]
      rcases xr h3 j _ hy with e | e | e
      · simpa using e
      · rw [bW] at e; rw [hr.1] at e; cases e
      · exfalso
        have : mH (rowOf ops oj).a done = true := by
         unfold mH
         have e2 : (rowOf ops oj).a &&& done = (rowOf ops oj).a := by
          apply Nat.eq_of_testBit_eq
          intro k
          rw [Nat.testBit_and]
          cases hk : (rowOf ops oj).a.testBit k with
          | false => rfl
          | true => rw [(hr.2 k ((dF k _).1 hk)).2]; rfl
         show Nat.beq ((rowOf ops oj).a &&& done) _ = true
         rw [e2]; simp
        rw [this] at e; cases e
     have mv := (pM hm ho).2 ⟨h1, sub⟩
     have hnd : (Region.ready .any ops listed).Nodup := (List.Pairwise.filter _ List.nodup_range)
     match hl : Region.ready .any ops listed with
     | [] => rw [hl] at mv; cases mv
     | [x] => rw [hl] at key; rw [key x (by simp)]
     | x :: y :: zs =>
       rw [hl] at key hnd
       have e1 := key x (by simp)
       have e2 := key y (by simp)
       subst e1; subst e2
       simp at hnd
   · cases h
end
def BZ : List Row -> List Row -> Bool
 | [], [] => true
 | x :: xs, y :: ys => Nat.beq x.d y.d && (Nat.beq x.l y.l && (Nat.beq x.a y.a && BZ xs ys))
 | _, _ => false
theorem AF : ∀ {a b : List Row}, BZ a b = true -> a = b
 | [], [], _ => rfl
 | x :: xs, y :: ys, h => by
   simp only [BZ, cF] at h
   obtain ⟨h1, h2, h3, h4⟩ := h
   obtain ⟨a, b, c⟩ := x
   obtain ⟨a', b', c'⟩ := y
   have e1 : a = a' := eT h1
   have e2 : b = b' := eT h2
   have e3 : c = c' := eT h3
   rw [e1, e2, e3, AF h4]
 | [], _ :: _, h => by cases h
 | _ :: _, [], h => by cases h
structure Pl where
 steps : List (Bool × Nat)
 rows : List Row
def Ku (ops : Array Oper) (p : Pl) : Bool := BZ (ops.toList.map (rowOf ops)) p.rows && (wo p.rows ops.size p.steps 0 && Nat.beq p.steps.length ops.size)
theorem IZ {ops : Array Oper} {p : Pl} (h : Ku ops p = true) : (ji ops p.steps (Array.replicate ops.size false) && (p.steps.length == ops.size)) = true := by
 simp only [Ku, cF] at h
 obtain ⟨h1, h2, h3⟩ := h
 rw [<- AF h1] at h2
 simp only [cF, beq_iff_eq]
 refine ⟨wq _ _ 0 ⟨by simp, fun k hk => by simp [hk]⟩ (Nat.two_pow_pos _) h2, eT h3⟩
def pL (ops : Array Oper) (rows : List Row) : List (Bool × Nat) -> Nat -> Option Nat
 | [], done => some done
 | (true, i) :: r, done => match rows[i]? with
   | some x => cond (!hasB done i && (mH x.a done && Ac done i x rows 0)) (pL ops rows r (Nat.lor done (2 ^ i))) none
   | none => none
 | (false, i) :: r, done => match rows[i]? with
   | some x => cond (!hasB done i && (mH x.a done && (Ab done i rows 0 && !kO ops i))) (pL ops rows r (Nat.lor done (2 ^ i))) none
   | none => none
section
variable {ops : Array Oper}
theorem wu : ∀ (dv : List (Bool × Nat)) (listed : Array Bool) (done dn : Nat), hH ops.size listed done -> done < 2 ^ ops.size -> pL ops (ops.toList.map (rowOf ops)) dv done = some dn ->
 ∃ l, oX ops dv listed = some l /\ hH ops.size l dn /\ dn < 2 ^ ops.size
 | [], listed, done, dn, hm, aL, h => by
   simp only [pL, iE] at h
   subst h
   exact ⟨listed, rfl, hm, aL⟩
 | (b, i) :: r, listed, done, dn, hm, aL, h => by
   obtain ⟨x, hx⟩ : ∃ x, (ops.toList.map (rowOf ops))[i]? = some x := by
    cases b <;> simp only [pL] at h <;> split at h <;> first | exact ⟨_, by assumption⟩ | cases h
   obtain ⟨o, ho, rfl⟩ := wB hx
   have hi : i < ops.size := (kz.1 ho).1
   have jM : Nat.lor done (2 ^ i) < 2 ^ ops.size := Nat.or_lt_two_pow aL (Nat.pow_lt_pow_right (by omega) hi)
   have sub : mH (rowOf ops o).a done = true -> ∀ k, k ∈ xp o -> k < ops.size /\ done.testBit k = true := fun h2 k hk => by
    have := rL h2 k ((dF k _).2 hk)
    refine ⟨?_, this⟩
    rcases eZ k ops.size with h | h
    · exact h
    · rw [Nat.testBit_lt_two_pow (Nat.lt_of_lt_of_le aL (Nat.pow_le_pow_right (by omega) h))] at this; cases this
   cases b with
   | true =>
     simp only [pL, hx] at h
     cases hc : (!hasB done i && (mH (rowOf ops o).a done && Ac done i (rowOf ops o) (ops.toList.map (rowOf ops)) 0)) with
     | false => rw [hc] at h; cases h
     | true =>
       rw [hc, cond_true] at h
       simp only [cF, Bool.not_eq_true', mY] at hc
       obtain ⟨l, k1, k2, k3⟩ := wu r _ _ dn (hm.set i) jM h
       refine ⟨l, ?_, k2, k3⟩
       have FL : (Region.ready .any ops listed).contains i = true := by
        simp only [List.contains_iff_mem]; exact (pM hm ho).2 ⟨hc.1, sub hc.2.1⟩
       have Ew : Region.free .any ops listed i = true := El hm ho hc.2.2
       simp only [oX, FL, Ew, Bool.and_self, cond_true]
       exact k1
   | false =>
     simp only [pL, hx] at h
     cases hc : (!hasB done i && (mH (rowOf ops o).a done && (Ab done i (ops.toList.map (rowOf ops)) 0 && !kO ops i))) with
     | false => rw [hc] at h; cases h
     | true =>
       rw [hc, cond_true] at h
       simp only [cF, Bool.not_eq_true', mY] at hc
       obtain ⟨l, k1, k2, k3⟩ := wu r _ _ dn (hm.set i) jM h
       refine ⟨l, ?_, k2, k3⟩
       have ur : Region.ready .any ops listed = [i] := yx hm ho hc.1 (sub hc.2.1) hc.2.2.1
       have LR : kO ops i = false := by simpa using hc.2.2.2
       simp only [oX, ur, LR, dN, dk, Bool.and_self, cond_true]
       exact k1
def Jq (im : Nat) (done : Nat) : List Row -> Nat -> Bool
 | [], _ => true
 | y :: r, j => (hasB done j || (hasB im j || mH im y.a)) && Jq im done r (j + 1)
def Mn (ops : Array Oper) (rows : List Row) (I : nj) (done : Nat) : Bool := I.l.all fun i => !hasB done i && ((lT ops I i).isSome && (match rows[i]? with | some x => mH x.a done | none => false))
def increasing : List Nat -> Bool
 | a :: b :: l => Nat.blt a b && increasing (b :: l)
 | _ => true
def rl : List Int -> Bool
 | a :: b :: l => decide (a < b) && rl (b :: l)
 | _ => true
def Ay (P : Program) (ops : Array Oper) (rows : List Row) (dv : List (Bool × Nat)) (I : nj) (post : List (Bool × Nat)) : Bool :=
 BZ (ops.toList.map (rowOf ops)) rows && ((match pL ops rows dv 0 with
  | some dn => Jq (o6 I.l) dn rows 0 && (Mn ops rows I dn && wo rows ops.size post (Nat.lor dn (o6 I.l)))
  | none => false) && (increasing I.l && (rl (I.l.map fun i => ((lT ops I i).map (·.1)).getD 0) && (Nat.beq (dv.length + (I.l.length + post.length)) ops.size && (match p9 P I.t with | some (.i, _) => true | _ => false)))))
theorem xh : ∀ l : List Nat, increasing l = true -> l.Pairwise (· < ·)
 | [], _ => List.Pairwise.nil
 | [a], _ => List.pairwise_singleton ..
 | a :: b :: l, h => by
   simp only [increasing, cF] at h
   have Ia : a < b := Nat.le_of_ble_eq_true h.1
   have ih := xh (b :: l) h.2
   refine List.Pairwise.cons (fun y hy => ?_) ih
   rcases fC.1 hy with rfl | hy
   · exact Ia
   · exact Nat.lt_trans Ia ((List.pairwise_cons.1 ih).1 y hy)
theorem u9 : ∀ l : List Int, rl l = true -> l.Pairwise (· < ·)
 | [], _ => List.Pairwise.nil
 | [a], _ => List.pairwise_singleton ..
 | a :: b :: l, h => by
   simp only [rl, cF, ej] at h
   have ih := u9 (b :: l) h.2
   refine List.Pairwise.cons (fun y hy => ?_) ih
   rcases fC.1 hy with rfl | hy
   · exact h.1
   · exact Int.lt_trans h.1 ((List.pairwise_cons.1 ih).1 y hy)
theorem De {im done : Nat} : ∀ {l : List Row} {j : Nat}, Jq im done l j = true -> ∀ k y, l[k]? = some y -> (done.testBit (j + k) = true \/ im.testBit (j + k) = true \/ mH im y.a = true)
 | [], _, _, k, y, hy => by simp at hy
 | z :: r, j, h, k, y, hy => by
   simp only [Jq, cF, ln, mY] at h
   cases k with
   | zero => simp at hy; subst hy; exact h.1
   | succ k =>
     have := De h.2 k y (by simpa using hy)
     rw [show j + (k + 1) = j + 1 + k by omega]; exact this
theorem hH.fV {n : Nat} : ∀ (l : List Nat) (listed : Array Bool) (done : Nat), hH ops.size listed done -> hH ops.size (Go.Rip.fV listed l) (Nat.lor done (o6 l))
 | [], listed, done, h => by
   show hH ops.size listed (done ||| 0)
   rw [Nat.or_zero]; exact h
 | i :: l, listed, done, h => by
   have := hH.fV (n := n) l _ _ (h.set i)
   show hH ops.size (Go.Rip.fV (listed.setIfInBounds i true) l) (done ||| (2 ^ i ||| o6 l))
   rw [<- Nat.or_assoc]; exact this
theorem HD {P : Program} {rows : List Row} {dv : List (Bool × Nat)} {I : nj} {post : List (Bool × Nat)} (h : Ay P ops rows dv I post = true) : tV P ops dv I post = true := by
 simp only [Ay, cF] at h
 obtain ⟨h1, h2, h3, h4, h5, h6⟩ := h
 rw [<- AF h1] at h2
 split at h2
 · rename_i dn hd
   simp only [cF] at h2
   obtain ⟨b1, b2, b3⟩ := h2
   obtain ⟨l, k1, k2, k3⟩ := wu dv (Array.replicate ops.size false) 0 dn ⟨by simp, fun k hk => by simp [hk]⟩ (Nat.two_pow_pos _) hd
   have abS := xh _ h3
   have aaN := u9 _ h4
   simp only [Mn, eY, cF, Bool.not_eq_true', mY] at b2
   have FN : ∀ i ∈ I.l, ∃ o, ops[i]? = some o /\ mH (rowOf ops o).a dn = true := fun i hi => by
    have := (b2 i hi).2.2
    split at this
    · rename_i x hx
      obtain ⟨o, ho, rfl⟩ := wB hx
      exact ⟨o, ho, this⟩
    · cases this
   have aL : ∀ i ∈ I.l, i < ops.size := fun i hi => by
    obtain ⟨o, ho, _⟩ := FN i hi
    exact (kz.1 ho).1
   have him : o6 I.l < 2 ^ ops.size := by
    have : ∀ l : List Nat, (∀ i ∈ l, i < ops.size) -> o6 l < 2 ^ ops.size := fun l => by
     induction l with
     | nil => intro _; exact Nat.two_pow_pos _
     | cons i l ih => intro hh; exact Nat.or_lt_two_pow (Nat.pow_lt_pow_right (by omega) (hh i (by simp))) (ih fun j hj => hh j (by simp [hj]))
    exact this _ aL
   have VB : ∀ {o : Oper} {m : Nat}, m < 2 ^ ops.size -> mH (rowOf ops o).a m = true -> ∀ e ∈ o.after, Region.binds .any e = true -> m.testBit e.on = true := fun {o m} LO hs e he hb =>
    rL hs e.on ((dF _ _).2 (sx.2 ⟨e, he, hb, rfl⟩))
   simp only [tV, k1, cF]
   refine ⟨⟨?_, wq post _ _ (hH.fV (n := 0) I.l l dn k2) (Nat.or_lt_two_pow k3 him) b3⟩, h5, h6⟩
   simp only [pG, Cw, cF, eY, List.mem_range, ln, ej, Bool.not_eq_true']
   refine ⟨fun j hj => ?_, fun i hi => ?_, ?_, fun i hi => ⟨?_, (b2 i hi).2.1, ?_⟩, abS.imp (fun h => Nat.ne_of_lt h), aaN.imp (fun h => Int.ne_of_lt h)⟩
   · obtain ⟨o, ho⟩ : ∃ o, ops[j]? = some o := ⟨ops[j], by simp [hj]⟩
     have hy : (ops.toList.map (rowOf ops))[j]? = some (rowOf ops o) := by rw [ma]; simp [ho]
     rcases De b1 j _ hy with h | h | h
     · left; rw [k2.get hj]; simpa using h
     · right; left
       have := (dF _ _).1 h
       simpa using this
     · right; right
       rw [ho]
       show (I.l.all fun i => o.after.toList.any fun e => Region.binds .any e && Nat.beq e.on i) = true
       rw [eY]
       intro i hi
       have := rL h i ((dF _ _).2 hi)
       obtain ⟨e, he, hb, By⟩ := sx.1 ((dF _ _).1 this)
       rw [List.any_eq_true]
       exact ⟨e, by simpa using he, by simp [hb, By]⟩
   · rw [k2.get (aL i hi)]; exact (b2 i hi).1
   · rw [k2.1]; simp
   · show Nat.ble (i + 1) ops.size = true
     exact Nat.ble_eq_true_of_le (aL i hi)
   · obtain ⟨o, ho, hs⟩ := FN i hi
     rw [ho]
     simp only [Er, eY, ln, Bool.not_eq_true']
     intro e he
     cases hb : Region.binds .any e with
     | false => exact .inl rfl
     | true =>
       right
       have ht := VB k3 hs e (by simpa using he) hb
       have jM : e.on < ops.size := by
        rcases eZ e.on ops.size with h | h
        · exact h
        · rw [Nat.testBit_lt_two_pow (Nat.lt_of_lt_of_le k3 (Nat.pow_le_pow_right (by omega) h))] at ht; cases ht
       rw [k2.get jM]; exact ht
 · cases h2
end
end Go.Rip
namespace Go.Rip
open Go.RowKit
inductive T (α : Type) where
 | e
 | n (l : T α) (v : Option α) (r : T α)
theorem yb {a b : Nat} (h : a ≠ b) : Nat.beq a b = false := by
 cases hb : Nat.beq a b with
 | false => rfl
 | true => exact absurd (eT hb) h
theorem Kl {a b : Nat} (h : a = b) : Nat.beq a b = true := by subst h; exact Nat.beq_refl a
namespace T
variable {α : Type}
def get : T α -> Nat -> Option α
 | .e, _ => none
 | .n l v r, i => cond (Nat.beq i 0) v (cond (Nat.beq (i % 2) 1) (l.get (i / 2)) (r.get (i / 2 - 1)))
def wD : Nat -> T α -> Nat -> Option α -> T α
 | 0, t, _, _ => t
 | f + 1, .e, i, v => cond (Nat.beq i 0) (.n .e v .e) (cond (Nat.beq (i % 2) 1) (.n (wD f .e (i / 2) v) none .e) (.n .e none (wD f .e (i / 2 - 1) v)))
 | f + 1, .n l w r, i, v => cond (Nat.beq i 0) (.n l v r) (cond (Nat.beq (i % 2) 1) (.n (wD f l (i / 2) v) w r) (.n l w (wD f r (i / 2 - 1) v)))
def set (t : T α) (i : Nat) (v : Option α) : T α := wD (i + 1) t i v
theorem QP : ∀ (f : Nat) (t : T α) (i j : Nat) (v : Option α), i < f -> (wD f t i v).get j = if j = i then v else t.get j := by
 intro f
 induction f with
 | zero => intro t i j v h; omega
 | succ f ih =>
   intro t i j v h
   have key : ∀ (l r : T α) (w : Option α), (cond (Nat.beq i 0) (.n l v r) (cond (Nat.beq (i % 2) 1) (.n (wD f l (i / 2) v) w r) (.n l w (wD f r (i / 2 - 1) v))) : T α).get j = if j = i then v else (T.n l w r).get j := fun l r w => by
    by_cases hi : i = 0
    · subst hi
      simp only [Nat.beq_refl, cond_true, get]
      by_cases hj : j = 0
      · subst hj; simp
      · have : Nat.beq j 0 = false := yb hj
        simp [this, hj]
    · have Bq : Nat.beq i 0 = false := yb hi
      rw [Bq, cond_false]
      by_cases h1 : i % 2 = 1
      · have hb : Nat.beq (i % 2) 1 = true := Kl h1
        rw [hb, cond_true]
        simp only [get]
        by_cases hj : j = 0
        · subst hj
          have : (0 : Nat) ≠ i := fun e => hi e.symm
          simp [this]
        · have Dw : Nat.beq j 0 = false := yb hj
          rw [Dw, cond_false, cond_false]
          by_cases tG : j % 2 = 1
          · have Fz : Nat.beq (j % 2) 1 = true := Kl tG
            rw [Fz, cond_true, cond_true, ih _ _ _ _ (by omega)]
            by_cases e : j = i
            · subst e; simp
            · rw [if_neg (by omega), if_neg e]
          · have Fz : Nat.beq (j % 2) 1 = false := yb tG
            rw [Fz, cond_false, cond_false, if_neg (by omega)]
      · have hb : Nat.beq (i % 2) 1 = false := yb h1
        rw [hb, cond_false]
        simp only [get]
        by_cases hj : j = 0
        · subst hj
          have : (0 : Nat) ≠ i := fun e => hi e.symm
          simp [this]
        · have Dw : Nat.beq j 0 = false := yb hj
          rw [Dw, cond_false, cond_false]
          by_cases tG : j % 2 = 1
          · have Fz : Nat.beq (j % 2) 1 = true := Kl tG
            rw [Fz, cond_true, cond_true, if_neg (by omega)]
          · have Fz : Nat.beq (j % 2) 1 = false := yb tG
            rw [Fz, cond_false, cond_false, ih _ _ _ _ (by omega)]
            by_cases e : j = i
            · subst e; simp
            · rw [if_neg (by omega), if_neg e]
   cases t with
   | n l w r => exact key l r w
   | e =>
     have := key .e .e none
     simp only [wD]
     rw [this]
     congr 1
     simp only [get]
     cases Nat.beq j 0 <;> cases Nat.beq (j % 2) 1 <;> rfl
theorem sA (t : T α) (i j : Nat) (v : Option α) : (t.set i v).get j = if j = i then v else t.get j := QP _ _ _ _ _ (by omega)
def IS : List α -> Nat -> T α -> T α
 | [], _, t => t
 | x :: xs, i, t => IS xs (i + 1) (t.set i (some x))
theorem H8 : ∀ (l : List α) (i : Nat) (t : T α) (j : Nat), (IS l i t).get j = if i <= j /\ j < i + l.length then l[j - i]? else t.get j
 | [], i, t, j => by simp [IS]; omega
 | x :: xs, i, t, j => by
   simp only [IS]
   rw [H8 xs (i + 1) _ j, sA]
   by_cases h1 : i + 1 <= j /\ j < i + 1 + xs.length
   · rw [if_pos h1, if_pos (by simp; omega)]
     have : j - i = (j - (i + 1)) + 1 := by omega
     rw [this]; simp
   · rw [if_neg h1]
     by_cases h2 : j = i
     · subst h2; simp
     · rw [if_neg h2, if_neg (by simp; omega)]
end T
def eV (t : T AV) : Env := ⟨fun i => (t.get i).getD (.aU [])⟩
theorem Ll (t : T AV) (d : Nat) (v : AV) : eV (t.set d (some v)) = (eV t).put d v := by
 simp only [eV, Env.put, Env.mk.injEq]
 funext i
 rw [T.sA]
 split <;> rfl
def ym (t : T AV) : Option Nat -> AV -> T AV
 | some d, v => t.set d (some v)
 | none, _ => t
theorem py (t : T AV) (d : Option Nat) (v : AV) : eV (ym t d v) = (eV t).eI d v := by
 cases d with
 | none => rfl
 | some d => exact Ll t d v
theorem JB (l : List AV) : eV (T.IS l 0 .e) = Env.jg l := by
 simp only [eV, Env.jg, Env.mk.injEq]
 funext i
 rw [T.H8]
 by_cases h : i < l.length
 · rw [if_pos (by omega)]; simp [uC]
 · rw [if_neg (by omega)]
   simp [T.get, uC, l9 (Nat.le_of_not_lt h)]
structure ES where
 live : T Live
 n : Nat
def bX (e : ES) : St := ⟨fun b => e.live.get b, some e.n⟩
def ES.set (e : ES) (b : Nat) (x : Live) : ES := ⟨e.live.set b (some x), e.n⟩
def ES.del (e : ES) (b : Nat) : ES := ⟨e.live.set b none, e.n⟩
def ES.rQ (e : ES) : Option Nat -> ES
 | some b => e.del b
 | none => e
def ES.new (e : ES) (x : Live) : ES := ⟨e.live.set e.n (some x), e.n + 1⟩
theorem mG (e : ES) (b : Nat) (x : Live) : bX (e.set b x) = (bX e).set b x := by
 simp only [bX, ES.set, St.set, St.mk.injEq, and_true]
 funext y; rw [T.sA]
theorem AI (e : ES) (b : Nat) : bX (e.del b) = (bX e).del b := by
 simp only [bX, ES.del, St.del, St.mk.injEq, and_true]
 funext y; rw [T.sA]
theorem P9 (e : ES) (b : Option Nat) : bX (e.rQ b) = (bX e).rQ b := by
 cases b with
 | none => rfl
 | some b => exact AI e b
theorem qX (e : ES) (x : Live) : bX (e.new x) = (bX e).new e.n x := by
 simp only [bX, ES.new, St.new, St.mk.injEq, Option.map_some, and_true]
 funext y; rw [T.sA]
def QE : Fn -> Fn -> Bool
 | .func a, .func b => Nat.beq a b
 | _, _ => false
theorem UH {a b : Fn} (h : QE a b = true) : a = b := by
 cases a <;> cases b <;> simp only [QE, bH] at h
 rw [eT h]
def JC : kh -> kh -> Bool
 | .full, .full => true
 | .own a, .own b => Nat.beq a b
 | .gC, .gC => true
 | _, _ => false
theorem QD {a b : kh} (h : JC a b = true) : a = b := by
 cases a <;> cases b <;> simp only [JC, bH] at h <;> first
  | rfl
  | rw [eT h]
mutual
def jd : AV -> AV -> Bool
 | .bool a, .bool b => a == b
 | .int k a, .int k' b => decide (k = k') && decide (a = b)
 | .str a, .str b => decide (a = b)
 | .bj, .bj | .ak, .ak | .kx, .kx | .jt, .jt | .dq, .dq => true
 | .box a i, .box b j => Nat.beq a b && Nat.beq i j
 | .cP l, .cP l' => oD l l'
 | .vec n c l, .vec n' c' l' => Nat.beq n n' && JC c c' && oD l l'
 | .ms b o n z e, .ms b' o' n' z' e' => Nat.beq b b' && Nat.beq o o' && Nat.beq n n' && Nat.beq z z' && Nat.beq e e'
 | .mp a, .mp b => Nat.beq a b
 | .fS ks vs, .fS ks' vs' => oD ks ks' && oD vs vs'
 | .func f a b, .func f' a' b' => QE f f' && oD a a' && oD b b'
 | .iface t v, .iface t' v' => Nat.beq t t' && jd v v'
 | .agg l, .agg l' => oD l l'
 | .aU l, .aU l' => oD l l'
 | .rO a, .rO b => Nat.beq a b
 | .it a, .it b => Nat.beq a b
 | .any, .any => true
 | _, _ => false
def oD : List AV -> List AV -> Bool
 | [], [] => true
 | x :: xs, y :: ys => jd x y && oD xs ys
 | _, _ => false
end
mutual
theorem y3 : ∀ {a b : AV}, jd a b = true -> a = b
 | .bool a, b, h => by cases b <;> simp only [jd, bH] at h; simpa using h
 | .int k a, b, h => by cases b <;> simp only [jd, bH] at h; simpa using h
 | .str a, b, h => by cases b <;> simp only [jd, bH] at h; simpa using h
 | .bj, b, h => by cases b <;> simp only [jd, bH] at h; rfl
 | .ak, b, h => by cases b <;> simp only [jd, bH] at h; rfl
 | .kx, b, h => by cases b <;> simp only [jd, bH] at h; rfl
 | .jt, b, h => by cases b <;> simp only [jd, bH] at h; rfl
 | .dq, b, h => by cases b <;> simp only [jd, bH] at h; rfl
 | .box a i, b, h => by cases b <;> simp only [jd, bH, cF] at h; rw [eT h.1, eT h.2]
 | .cP l, b, h => by cases b <;> simp only [jd, bH] at h; rw [j0 h]
 | .vec n c l, b, h => by cases b <;> simp only [jd, bH, cF] at h; rw [eT h.1.1, QD h.1.2, j0 h.2]
 | .ms b o n z e, b', h => by
   cases b' <;> simp only [jd, bH, cF] at h
   rw [eT h.1.1.1.1, eT h.1.1.1.2, eT h.1.1.2, eT h.1.2, eT h.2]
 | .mp a, b, h => by cases b <;> simp only [jd, bH] at h; rw [eT h]
 | .fS ks vs, b, h => by cases b <;> simp only [jd, bH, cF] at h; rw [j0 h.1, j0 h.2]
 | .func f a b, b', h => by cases b' <;> simp only [jd, bH, cF] at h; rw [UH h.1.1, j0 h.1.2, j0 h.2]
 | .iface t v, b, h => by cases b <;> simp only [jd, bH, cF] at h; rw [eT h.1, y3 h.2]
 | .agg l, b, h => by cases b <;> simp only [jd, bH] at h; rw [j0 h]
 | .aU l, b, h => by cases b <;> simp only [jd, bH] at h; rw [j0 h]
 | .rO a, b, h => by cases b <;> simp only [jd, bH] at h; rw [eT h]
 | .it a, b, h => by cases b <;> simp only [jd, bH] at h; rw [eT h]
 | .any, b, h => by cases b <;> simp only [jd, bH] at h; rfl
theorem j0 : ∀ {a b : List AV}, oD a b = true -> a = b
 | [], b, h => by cases b <;> simp only [oD, bH] at h; rfl
 | x :: xs, b, h => by cases b <;> simp only [oD, bH, cF] at h; rw [y3 h.1, j0 h.2]
end
def Fi : Option Live -> Option Live -> Bool
 | some (.box l), some (.box l') => oD l l'
 | some (.mp a b), some (.mp a' b') => oD a a' && oD b b'
 | _, _ => false
theorem Lm {a b : Option Live} (h : Fi a b = true) : a = b := by
 unfold Fi at h
 split at h
 · rw [j0 h]
 · simp only [cF] at h; rw [j0 h.1, j0 h.2]
 · cases h
end Go.Rip
namespace Go.Rip
open Go.RowKit
structure il where
 C : cV
 mu : Nat -> List Nat
 pf : Nat -> Bool
 sm : Nat -> List AV -> Option AV
 Un : Nat -> List AV -> ES -> Option (AV × ES)
 tr : Nat -> Bool
 ft : TypeId
 ins : Nat -> Nat -> Option (List Row × List (Bool × Nat) × nj × List (Bool × Nat)) := fun _ _ => none
abbrev KR := cS -> ES -> Bool
abbrev KC := Ex -> T AV -> ES -> Bool
abbrev sc := Nat -> List AV -> ES -> KR -> Bool
def rK (k kp : AV -> ES -> Bool) : KR
 | .ret v, e => k v e
 | .panic v, e => kp v e
def zg (cf cy : sc) (e : ES) : aw -> (AV -> ES -> Bool) -> (AV -> ES -> Bool) -> Bool
 | .val v, k, _ => k v e
 | .kW v b x, k, _ => k v (e.set b x)
 | .new kd del x, k, _ => k (kd.at e.n) ((e.rQ del).new x)
 | .kP b l, k, _ => l.all fun p => k p.1 (e.set b p.2)
 | .enter f args, k, kp => cf f args e (rK k kp)
 | .yield o args, k, kp => cy o args e (rK k kp)
 | .panic v, _, kp => kp v e
 | @aw.cond p d r, k, kp => (@decide p d) && zg cf cy e r k kp
 | .bad, _, _ => false
def Ba (V : il) (cf cy : sc) (mu : List Nat) (ops : Array Oper) : List Oper -> T AV -> ES -> (T AV -> ES -> Bool) -> (AV -> ES -> Bool) -> Bool
 | [], ρ, e, k, _ => k ρ e
 | o :: rest, ρ, e, k, kp => match hZ ops (eV ρ) o.guard with
   | .bool true => zg cf cy e (jh V.C (ph mu o) o.op (eV ρ) (bX e)) (fun v e' => Ba V cf cy mu ops rest (ym ρ o.dst v) e' k kp) kp
   | .bool false => Ba V cf cy mu ops rest (ym ρ o.dst (.aU [])) e k kp
   | _ => false
def Ji (V : il) : aw -> Option AV
 | .val v => some v
 | @aw.cond p d r => cond (@decide p d) (Ji V r) none
 | .enter f args => V.sm f args
 | _ => none
def KG (B : List Nat) (e0 e : ES) : Bool := B.all fun b => Fi (e.live.get b) (e0.live.get b)
def CI (C : cV) (B : List Nat) (ρ : Env) (op : Op) : Bool := op.operands.toList.all fun x => (cr (ρ.ev C x)).all fun b => B.any fun c => Nat.beq c b
def oP (V : il) (cf cy : sc) (mu : List Nat) (ops : Array Oper) (B : List Nat) (e0 : ES) : List (Bool × Nat) -> T AV -> ES -> (T AV -> ES -> Bool) -> (AV -> ES -> Bool) -> Bool
 | [], ρ, e, k, _ => k ρ e
 | (true, i) :: r, ρ, e, k, kp => match ops[i]? with
   | none => false
   | some o => match hZ ops (eV ρ) o.guard with
     | .bool true => quiet o.op && (!ot o.op || CI V.C B (eV ρ) o.op) && (match Ji V (jh V.C (ph mu o) o.op (eV ρ) (bX e0)) with
       | some v => oP V cf cy mu ops B e0 r (ym ρ o.dst v) e k kp
       | none => false)
     | .bool false => oP V cf cy mu ops B e0 r (ym ρ o.dst (.aU [])) e k kp
     | _ => false
 | (false, i) :: r, ρ, e, k, kp => match ops[i]? with
   | none => false
   | some o => match hZ ops (eV ρ) o.guard with
     | .bool true => zg cf cy e (jh V.C (ph mu o) o.op (eV ρ) (bX e)) (fun v e' => (KG B e0 e' || kO ops i) && oP V cf cy mu ops B e0 r (ym ρ o.dst v) e' k kp) kp
     | .bool false => oP V cf cy mu ops B e0 r (ym ρ o.dst (.aU [])) e k kp
     | _ => false
def MS (V : il) (o : Oper) : Bool := match o.op with
 | .call c => match c.callee with
   | .value (.func f) => V.pf f
   | .value _ => false
   | _ => quiet o.op
 | op => quiet op
def x9 (V : il) (ops : Array Oper) : Nat -> Array Bool -> List (Bool × Nat)
 | 0, _ => []
 | n + 1, listed => match (Region.ready .any ops listed).find? fun i => match ops[i]? with | some o => MS V o | none => false with
   | some i => (true, i) :: x9 V ops n (listed.setIfInBounds i true)
   | none => match Region.ready .any ops listed with
     | i :: _ => (false, i) :: x9 V ops n (listed.setIfInBounds i true)
     | [] => []
def preB (V : il) (mu : List Nat) (e0 : ES) : List Oper -> T AV -> List Nat -> List Nat
 | [], _, B => B
 | o :: r, ρ, B => preB V mu e0 r (ym ρ o.dst (cond (MS V o) ((Ji V (jh V.C (ph mu o) o.op (eV ρ) (bX e0))).getD .any) .any)) (cond (ot o.op) (o.op.operands.toList.flatMap (fun x => cr ((eV ρ).ev V.C x)) ++ B) B)
def Kh (P : Program) (ty : TypeId) (p : AV) (U : St) : Option AV := match tO P ty p U with
 | .val v => some v
 | @aw.cond q d (.val v) => cond (@decide q d) (some v) none
 | _ => none
def AD (P : Program) (ρ : Env) (U : St) : List ResultVar -> Option (List AV)
 | [] => some []
 | .tmp t :: rs => (AD P ρ U rs).map fun vs => ρ.get t :: vs
 | .cell t ty :: rs => match Kh P ty (ρ.get t) U with
   | some v => (AD P ρ U rs).map fun vs => v :: vs
   | none => none
abbrev tw := Nat -> List Nat -> Nat -> Ro -> Code -> T AV -> ES -> KC -> Bool
def Qz (P : Program) (fn : Func) (k : KR) : KC := fun ex ρ e => match ex with
 | .normal | .ret => match AD P (eV ρ) (bX e) fn.results.toList with
   | some vs => k (.ret (uH vs)) e
   | none => false
 | .panic x => k (.panic x) e
 | .exit _ => false
def GS (ft : TypeId) (a : Nat) (k : KR) : KR
 | .ret v, e => match (bX e).box a, (bX e).box (a + 1), (bX e).box (a + 2) with
   | some [_], some [_], some [_] => v.scalar && k (.ret (.aU [v, .int .i64 0, .bool true])) (((e.set a (.box [v])).set (a + 1) (.box [.int .i64 0])).set (a + 2) (.box [.bool true]))
   | _, _, _ => false
 | .panic x, e => match x, (bX e).box a, (bX e).box (a + 1), (bX e).box (a + 2) with
   | .iface t (.agg [.int .i64 at_]), some [_], some [_], some [_] => Nat.beq t ft && k (.ret (.aU [.bj, .int .i64 at_, .bool false])) ((((e.new (.box [.int .i64 at_])).set a (.box [.bj])).set (a + 1) (.box [.int .i64 at_])).set (a + 2) (.box [.bool false]))
   | _, _, _, _ => false
def Es (V : il) (ev : tw) : sc := fun f args e k =>
 match V.sm f args with
 | some x => k (.ret x) e
 | none => match V.Un f args e with
   | some (x, e') => k (.ret x) e'
   | none => match V.C.P.funcs[f]? with
     | some fn => match fn.body with
       | some c => Nat.ble args.length fn.ntmps && ev fn.ntmps (V.mu f) f .fn c (T.IS args 0 .e) e (Qz V.C.P fn k)
       | none => false
     | none => false
def Zx (e : ES) : ES := ((e.new (.box [.bj])).new (.box [.int .i64 0])).new (.box [.bool false])
def sd (V : il) (ev : tw) : sc := fun f args e k =>
 cond (V.tr f) (match args with
  | [_, .func (.func g) first cap] => hU V.C.P g && Es V ev g (first ++ cap) (Zx e) (GS V.ft e.n k)
  | _ => false) (Es V ev f args e k)
def endRound (o : Nat) (k : KR) : KC := fun ex _ e => match (bX e).loop o with
 | some L => match ex with
   | .normal => k (.ret (.bool true)) (e.set o (.loop { L with state := .ready, fH := none }))
   | .ret => k (.ret (.bool false)) (e.set o (.loop { L with state := .done, fH := some .ret }))
   | .exit id => k (.ret (.bool false)) (e.set o (.loop { L with state := .done, fH := some (.exit id) }))
   | .panic _ => false
 | none => false
def isReady : LoopState -> Bool
 | .ready => true
 | _ => false
def Mi : LoopState -> Bool
 | .busy => true
 | _ => false
def qY (f : Nat -> AV) : Nat -> T AV -> T AV
 | 0, t => t
 | n + 1, t => qY f n (t.set n (some (f n)))
def vH (V : il) (ev : tw) : sc := fun o args e k =>
 match (bX e).loop o with
 | some L => Nat.beq args.length L.params.size && L.params.toList.all (fun t => Nat.blt t L.nt) &&
   ev L.nt (V.mu L.tag) L.tag (.round o) L.assign (qY (wv L.ρ L.params.toList args) L.nt .e) e (fun ex ρ e => match ex with
    | .normal => match (bX e).loop o with
      | some L' => isReady L'.state && ev L.nt (V.mu L.tag) L.tag (.round o) L.body ρ (e.set o (.loop { L' with state := .busy })) (endRound o k)
      | none => false
    | _ => false)
 | none => false
def Fh (o : Nat) (ρ : T AV) (k : KC) : KR
 | .ret _, e => match (bX e).loop o with
   | some L => !Mi L.state && (match L.fH with
     | none => k .normal ρ (e.del o)
     | some .ret => k .ret ρ (e.del o)
     | some (.exit id) => k (.exit id) ρ (e.del o)
     | _ => false)
   | none => false
 | .panic x, e => k (.panic x) .e e
def Ra (V : il) (ops : Array Oper) (B : List Nat) (I : nj) (ρ : T AV) (e : ES) (k : T AV -> ES -> Bool) : Bool := match (eV ρ).get I.m with
 | .mp id => (match (bX e).mp id with | some ([], []) => true | _ => false) && (B.all (fun b => !Nat.beq b id) && k ρ (e.set id (.mp (oS I.kk (mZ V.C ops (eV ρ) I) ([], [])).1 (oS I.kk (mZ V.C ops (eV ρ) I) ([], [])).2)))
 | _ => false
def nv (V : il) : Nat -> tw
 | 0 => fun _ _ _ _ _ _ _ _ => false
 | n + 1 => fun nt mu tag ro c ρ e k =>
   match c with
   | .skip => k .normal ρ e
   | .exit id => k (.exit id) ρ e
   | .ret => k .ret ρ e
   | .seq a b => nv V n nt mu tag ro a ρ e fun ex ρ e => match ex with
     | .normal => nv V n nt mu tag ro b ρ e k
     | ex => k ex ρ e
   | .cond x a b => match (eV ρ).ev V.C x with
     | .bool true => nv V n nt mu tag ro a ρ e k
     | .bool false => nv V n nt mu tag ro b ρ e k
     | _ => false
   | .block id a => nv V n nt mu tag ro a ρ e fun ex ρ e => match ex with
     | .exit zJ => cond (Nat.beq zJ id) (k .normal ρ e) (k (.exit zJ) ρ e)
     | ex => k ex ρ e
   | .loop a => nv V n nt mu tag ro a ρ e fun ex ρ e => match ex with
     | .normal => nv V n nt mu tag ro (.loop a) ρ e k
     | ex => k ex ρ e
   | .region _ ops false => mz nt ops && Ba V (sd V (nv V n)) (vH V (nv V n)) mu ops ops.toList ρ e (fun ρ e => k .normal ρ e) (fun x e => k (.panic x) .e e)
   | .region id ops true => match V.ins tag id with
     | none => mz nt ops && (ji ops (x9 V ops ops.size (Array.replicate ops.size false)) (Array.replicate ops.size false) && ((x9 V ops ops.size (Array.replicate ops.size false)).length == ops.size)) &&
     oP V (sd V (nv V n)) (vH V (nv V n)) mu ops (preB V mu e ops.toList ρ []) e (x9 V ops ops.size (Array.replicate ops.size false)) ρ e (fun ρ e => k .normal ρ e) (fun x e => k (.panic x) .e e)
     | some (rows, dv, I, post) => mz nt ops && (Ay V.C.P ops rows dv I post && oP V (sd V (nv V n)) (vH V (nv V n)) mu ops (preB V mu e ops.toList ρ []) e dv ρ e (fun dV e' => Ra V ops (preB V mu e ops.toList ρ []) I dV e' (fun dV e' => oP V (sd V (nv V n)) (vH V (nv V n)) mu ops (preB V mu e ops.toList ρ []) e post dV e' (fun ρ e => k .normal ρ e) (fun x e => k (.panic x) .e e))) (fun x e => k (.panic x) .e e))
   | .rangeFunc f ps assign body => match ro, (eV ρ).ev V.C f with
     | .fn, .func (.func iK) first cap => hU V.C.P iK && sd V (nv V n) iK (first ++ [.rO e.n] ++ cap) (e.new (.loop ⟨(eV ρ).get, nt, ps, assign, body, .ready, none, tag⟩)) (Fh e.n ρ k)
     | _, _ => false
   | _ => false
def kR (k : KR) : cS -> St -> Prop := fun r U => ∃ e, U = bX e /\ k r e = true
def kA (k : AV -> ES -> Bool) : AV -> St -> Prop := fun v U => ∃ e, U = bX e /\ k v e = true
def kE (k : T AV -> ES -> Bool) : Env -> St -> Prop := fun ρ U => ∃ t e, ρ = eV t /\ U = bX e /\ k t e = true
def kC (k : KC) : Ex -> Env -> St -> Prop
 | .panic x, _, U => ∃ e, U = bX e /\ k (.panic x) .e e = true
 | ex, ρ, U => ∃ t e, ρ = eV t /\ U = bX e /\ k ex t e = true
def GU (ft : TypeId) (a b c : Nat) (R : cS -> St -> Prop) : cS -> St -> Prop
 | .ret v, U => v.scalar = true /\ (∃ x, U.box a = some [x]) /\ (∃ x, U.box b = some [x]) /\ (∃ x, U.box c = some [x]) /\ R (.ret (.aU [v, .int .i64 0, .bool true])) (((U.cw a [v]).cw b [.int .i64 0]).cw c [.bool true])
 | .panic x, U => ∃ at_, x = .iface ft (.agg [.int .i64 at_]) /\ (∃ x, U.box a = some [x]) /\ (∃ x, U.box b = some [x]) /\ (∃ x, U.box c = some [x]) /\
    ∀ q, U.dB q -> R (.ret (.aU [.bj, .int .i64 at_, .bool false])) ((((U.new q (.box [.int .i64 at_])).cw a [.bj]).cw b [.int .i64 at_]).cw c [.bool false])
def HP (C : cV) (ft : TypeId) (f : Nat) : Prop := ∀ r g first cap U R, hU C.P g = true ->
 (∀ a b c, U.dB a -> (U.new a (.box [.bj])).dB b -> ((U.new a (.box [.bj])).new b (.box [.int .i64 0])).dB c ->
   ad C g (first ++ cap) (((U.new a (.box [.bj])).new b (.box [.int .i64 0])).new c (.box [.bool false])) (GU ft a b c R)) -> ad C f [r, .func (.func g) first cap] U R
structure qC (V : il) : Prop where
 sm : ∀ f args x, V.sm f args = some x -> Pure V.C f args x
 Un : ∀ f args e x e', V.Un f args e = some (x, e') -> ∀ R, R (.ret x) (bX e') -> ad V.C f args (bX e) R
 tr : ∀ f, V.tr f = true -> HP V.C V.ft f
 mixed : V.C.P.follows .mixedOrders = true
def xm (V : il) (cf : sc) : Prop := ∀ f args e k, cf f args e k = true -> ad V.C f args (bX e) (kR k)
def yW (V : il) (cy : sc) : Prop := ∀ o args e k, cy o args e k = true -> lO V.C o args (bX e) (kR k)
def uN (V : il) (ev : tw) : Prop := ∀ nt mu tag ro c ρ e k, ev nt mu tag ro c ρ e k = true -> bO V.C nt ro c (kC k) (eV ρ) (bX e)
theorem sy {e : ES} {b : Nat} (h : (bX e).dB b) : b = e.n := h.2 _ rfl
theorem Lh (e : ES) (d : Option Nat) : (e.rQ d).n = e.n := by cases d <;> rfl
section
variable {V : il} {cf cy : sc}
theorem AG (hf : xm V cf) (hy : yW V cy) {e : ES} {k kp : AV -> ES -> Bool} : ∀ (r : aw), zg cf cy e r k kp = true -> r.wp V.C (bX e) (kA k) (kA kp)
 | .val v, h => ⟨e, rfl, h⟩
 | .kW v b x, h => ⟨e.set b x, (mG e b x).symm, h⟩
 | .new kd del x, h => fun b hb => by
   rw [<- P9] at hb ⊢
   have := sy hb
   rw [Lh] at this
   subst this
   exact ⟨(e.rQ del).new x, by rw [qX, Lh], h⟩
 | .kP b l, h => fun p hp => by
   simp only [zg, eY] at h
   exact ⟨e.set b p.2, (mG e b p.2).symm, h p hp⟩
 | .enter f args, h => (hf f args e _ h).mono fun r U hr => by cases r <;> exact hr
 | .yield o args, h => (hy o args e _ h).mono fun r U hr => by cases r <;> exact hr
 | .panic v, h => ⟨e, rfl, h⟩
 | @aw.cond p d r, h => by
   simp only [zg, cF] at h
   exact ⟨@of_decide_eq_true p d h.1, AG hf hy r h.2⟩
 | .bad, h => by cases h
theorem UN {ops : Array Oper} {B : List Nat} {I : nj} {k : T AV -> ES -> Bool} (ρ : T AV) (e : ES) (h : Ra V ops B I ρ e k = true) : JY V.C ops B I (kE k) (eV ρ) (bX e) := by
 unfold Ra at h
 split at h
 · rename_i id hid
   simp only [cF, eY, Bool.not_eq_true'] at h
   obtain ⟨h1, h2, h3⟩ := h
   split at h1
   · rename_i FD
     refine ⟨id, hid, FD, fun hm => ?_, ρ, _, rfl, (mG e id _).symm, h3⟩
     have := h2 id hm
     simp at this
   · cases h1
 · cases h
theorem Ah (hf : xm V cf) (hy : yW V cy) {mu : List Nat} {ops : Array Oper} {k : T AV -> ES -> Bool} {kp : AV -> ES -> Bool} : ∀ (l : List Oper) (ρ : T AV) (e : ES), Ba V cf cy mu ops l ρ e k kp = true ->
 oH V.C mu ops l (eV ρ) (bX e) (kE k) (kA kp)
 | [], ρ, e, h => ⟨ρ, e, rfl, rfl, h⟩
 | o :: rest, ρ, e, h => by
   simp only [Ba] at h
   simp only [oH]
   split at h
   · rename_i hg
     rw [hg]
     refine ⟨fun _ => ?_, fun h => (by cases h)⟩
     refine aw.wp_mono ?_ _ (AG hf hy _ h)
     rintro v U ⟨e', rfl, hk⟩
     have := Ah hf hy rest _ e' hk
     rw [py] at this
     exact this
   · rename_i hg
     rw [hg]
     refine ⟨fun h => (by cases h), fun _ => ?_⟩
     have := Ah hf hy rest _ e h
     rw [py] at this
     exact this
   · cases h
theorem Qj (hV : qC V) : ∀ (r : aw) (v : AV), Ji V r = some v -> r.yv V.C v
 | .val u, v, h => by simp only [Ji, iE] at h; exact h
 | @aw.cond p d r, v, h => by
   simp only [Ji] at h
   cases hd : @decide p d with
   | false => rw [hd] at h; cases h
   | true => rw [hd] at h; exact ⟨@of_decide_eq_true p d hd, Qj hV r v h⟩
 | .enter f args, v, h => hV.sm f args v h
 | .kW _ _ _, v, h => by cases h
 | .new _ _ _, v, h => by cases h
 | .kP _ _, v, h => by cases h
 | .yield _ _, v, h => by cases h
 | .panic _, v, h => by cases h
 | .bad, v, h => by cases h
theorem RQ {B : List Nat} {e0 e : ES} (h : KG B e0 e = true) : cv B (bX e0) (bX e) := fun b hb => by
 unfold KG at h
 rw [eY] at h
 exact Lm (h b hb)
theorem JQ {C : cV} {B : List Nat} {ρ : Env} {op : Op} (h : CI C B ρ op = true) : ∀ x ∈ op.operands.toList, ∀ b ∈ cr (ρ.ev C x), b ∈ B := fun x hx b hb => by
 unfold CI at h
 rw [eY] at h
 have := h x hx
 rw [eY] at this
 have := this b hb
 rw [List.any_eq_true] at this
 obtain ⟨c, hc, he⟩ := this
 rw [<- eT he]; exact hc
theorem nH (hV : qC V) (hf : xm V cf) (hy : yW V cy) {mu : List Nat} {ops : Array Oper} {B : List Nat} {e0 : ES} {k : T AV -> ES -> Bool} {kp : AV -> ES -> Bool} : ∀ (l : List (Bool × Nat)) (ρ : T AV) (e : ES), oP V cf cy mu ops B e0 l ρ e k kp = true ->
 mA V.C mu ops B (bX e0) (kE k) (kA kp) l (eV ρ) (bX e)
 | [], ρ, e, h => ⟨ρ, e, rfl, rfl, h⟩
 | (true, i) :: r, ρ, e, h => by
   simp only [oP] at h
   split at h
   · cases h
   · rename_i o ho
     split at h
     · rename_i hg
       simp only [cF, ln, Bool.not_eq_true'] at h
       obtain ⟨⟨h1, h2⟩, h3⟩ := h
       split at h3
       · rename_i v hv
         refine ⟨o, v, ho, .inl ⟨hg, h1, fun qB => ?_, Qj hV _ _ hv⟩, ?_⟩
         · rcases h2 with h2 | h2
           · rw [qB] at h2; cases h2
           · exact JQ h2
         · have := nH hV hf hy r _ e h3
           rw [py] at this
           exact this
       · cases h3
     · rename_i hg
       refine ⟨o, .aU [], ho, .inr ⟨hg, rfl⟩, ?_⟩
       have := nH hV hf hy r _ e h
       rw [py] at this
       exact this
     · cases h
 | (false, i) :: r, ρ, e, h => by
   simp only [oP] at h
   simp only [mA, ov]
   split at h
   · cases h
   · rename_i o ho
     try rw [ho]
     try dsimp only
     split at h
     · rename_i hg
       rw [hg]
       refine ⟨fun _ => ?_, fun h => (by cases h)⟩
       refine aw.wp_mono ?_ _ (AG hf hy _ h)
       rintro v U ⟨e', rfl, hk⟩
       simp only [cF] at hk
       refine ⟨?_, ?_⟩
       · rw [ln] at hk
         rcases hk.1 with h | h
         · exact .inr (RQ h)
         · exact .inl h
       have := nH hV hf hy r _ e' hk.2
       rw [py] at this
       exact this
     · rename_i hg
       rw [hg]
       refine ⟨fun h => (by cases h), fun _ => ?_⟩
       have := nH hV hf hy r _ e h
       rw [py] at this
       exact this
     · cases h
theorem tS {C : cV} {mu : List Nat} {ops : Array Oper} {K K' : Env -> St -> Prop} {Kp AR : AV -> St -> Prop} (hk : ∀ ρ U, K ρ U -> K' ρ U) (hp : ∀ v U, Kp v U -> AR v U) : ∀ (l : List Oper) {ρ : Env} {U : St}, oH C mu ops l ρ U K Kp -> oH C mu ops l ρ U K' AR
 | [], _, _, h => hk _ _ h
 | o :: rest, ρ, U, h => by
   simp only [oH] at h ⊢
   have wpp : ∀ (r : aw) {U : St} {X : AV -> St -> Prop}, r.wp C U X Kp -> r.wp C U X AR := fun r => by
    induction r with
    | val _ => exact fun h => h
    | kW _ _ _ => exact fun h => h
    | new _ _ _ => exact fun h => h
    | kP _ _ => exact fun h => h
    | enter f args => exact fun h => h.mono fun r U hr => by cases r <;> first | exact hr | exact hp _ _ hr
    | yield o args => exact fun h => h.mono fun r U hr => by cases r <;> first | exact hr | exact hp _ _ hr
    | panic v => exact fun h => hp _ _ h
    | cond p r ih => exact fun h => ⟨h.1, ih h.2⟩
    | bad => exact fun h => h
   cases hg : hZ ops ρ o.guard <;> rw [hg] at h <;> simp only [ao] at h ⊢
   exact ⟨fun e => aw.wp_mono (fun v U hv => tS hk hp rest hv) _ (wpp _ (h.1 e)), fun e => tS hk hp rest (h.2 e)⟩
theorem Rr {P : Program} {ty : TypeId} {p v : AV} {U : St} (h : Kh P ty p U = some v) {k : AV -> Prop} (hk : k v) : y8 P ty p U k := by
 unfold Kh at h
 unfold y8
 split at h
 · rename_i u hu
   cases h
   first | exact hk | (rw [hu]; exact hk)
 · rename_i q d u hu
   cases hd : @decide q d with
   | false => rw [hd] at h; cases h
   | true =>
     rw [hd] at h; cases h
     first | exact ⟨@of_decide_eq_true q d hd, hk⟩ | (rw [hu]; exact ⟨@of_decide_eq_true q d hd, hk⟩)
 · cases h
theorem ze {P : Program} {ρ : Env} {U : St} : ∀ (rs : List ResultVar) (vs : List AV) (k : List AV -> Prop), AD P ρ U rs = some vs -> k vs -> uE P ρ U rs k
 | [], vs, k, h, hk => by simp only [AD, iE] at h; subst h; exact hk
 | .tmp t :: rs, vs, k, h, hk => by
   simp only [AD, oI] at h
   obtain ⟨us, hu, rfl⟩ := h
   exact ze rs us _ hu hk
 | .cell t ty :: rs, vs, k, h, hk => by
   simp only [AD] at h
   split at h
   · rename_i v hv
     simp only [oI] at h
     obtain ⟨us, hu, rfl⟩ := h
     exact Rr hv (ze rs us _ hu hk)
   · cases h
theorem E8 (hV : qC V) {ev : tw} (he : uN V ev) : xm V (Es V ev) := fun f args e k h => by
 simp only [Es] at h
 split at h
 · rename_i x hx
   exact hV.sm f args x hx _ _ ⟨e, rfl, h⟩
 · split at h
   · rename_i x e' hx
     exact hV.Un f args e x e' hx _ ⟨e', rfl, h⟩
   · split at h
     · rename_i fn hfn
       split at h
       · rename_i c hc
         simp only [cF] at h
         refine ad.IT hfn hc (Nat.le_of_ble_eq_true h.1) ?_
         have := he _ _ _ _ _ _ _ _ h.2
         rw [JB] at this
         refine this.mono ?_
         intro ex ρ U hc
         cases ex with
         | normal =>
           obtain ⟨t, e', rfl, rfl, hk⟩ := hc
           simp only [Qz] at hk
           split at hk
           · rename_i vs DG
             exact ze _ vs _ DG ⟨_, _, lN.refl _ _, e', rfl, hk⟩
           · cases hk
         | ret =>
           obtain ⟨t, e', rfl, rfl, hk⟩ := hc
           simp only [Qz] at hk
           split at hk
           · rename_i vs DG
             exact ze _ vs _ DG ⟨_, _, lN.refl _ _, e', rfl, hk⟩
           · cases hk
         | panic x =>
           obtain ⟨e', rfl, hk⟩ := hc
           exact ⟨e', rfl, hk⟩
         | exit id =>
           obtain ⟨t, e', rfl, rfl, hk⟩ := hc
           cases hk
       · cases h
     · cases h
theorem ni (e : ES) (b : Nat) (l : List AV) : (bX e).cw b l = bX (e.set b (.box l)) := (mG e b _).symm
theorem E9 (hV : qC V) {ev : tw} (he : uN V ev) : xm V (sd V ev) := fun f args e k h => by
 simp only [sd] at h
 cases Yy : V.tr f with
 | false => rw [Yy] at h; exact E8 hV he f args e k h
 | true =>
   rw [Yy] at h
   simp only [cond_true] at h
   split at h
   · rename_i r g first cap
     rw [cF] at h
     obtain ⟨sS, h⟩ := h
     refine hV.tr f Yy r g first cap _ _ sS fun a b c ha hb hc => ?_
     have ea := sy ha
     subst ea
     rw [<- qX] at hb hc ⊢
     have eb := sy hb
     subst eb
     rw [<- qX] at hc ⊢
     have ec := sy hc
     subst ec
     rw [<- qX]
     refine (E8 hV he g _ _ _ h).mono ?_
     rintro r U ⟨e', rfl, hk⟩
     cases r with
     | ret v =>
       simp only [GS] at hk
       split at hk
       · rename_i x y z h1 h2 h3
         rw [cF] at hk
         refine ⟨hk.1, ⟨x, h1⟩, ⟨y, h2⟩, ⟨z, h3⟩, ?_⟩
         rw [ni, ni, ni]
         exact ⟨_, rfl, hk.2⟩
       · cases hk
     | panic x =>
       simp only [GS] at hk
       split at hk
       · rename_i t at_ x y z h1 h2 h3
         simp only [cF] at hk
         have ht := eT hk.1
         subst ht
         refine ⟨at_, rfl, ⟨x, h1⟩, ⟨y, h2⟩, ⟨z, h3⟩, fun q hq => ?_⟩
         have eq := sy hq
         subst eq
         rw [<- qX, ni, ni, ni]
         exact ⟨_, rfl, hk.2⟩
       · cases hk
   · cases h
theorem tm (f : Nat -> AV) : ∀ (n : Nat) (t : T AV) (i : Nat), (qY f n t).get i = if i < n then some (f i) else t.get i
 | 0, t, i => by simp [qY]
 | n + 1, t, i => by
   simp only [qY]
   rw [tm f n, T.sA]
   by_cases h : i < n
   · rw [if_pos h, if_pos (by omega)]
   · rw [if_neg h]
     by_cases e : i = n
     · subst e; simp
     · rw [if_neg e, if_neg (by omega)]
end
end Go.Rip
namespace Go.Rip
open Go.RowKit
theorem bO.env {C : cV} {nt : Nat} {ro : Ro} {c : Code} {Q : Ex -> Env -> St -> Prop} {ρ dV : Env} {U : St} (h1 : ∀ t, t < nt -> dV.get t = ρ.get t) (h2 : ∀ t, nt <= t -> dV.get t = .aU []) (h : bO C nt ro c Q dV U) : bO C nt ro c Q ρ U := by
 intro g w a fr k1 k2 k3 k4 k5
 refine h g w a fr k1 k2 (fun t => ?_) k4 k5
 by_cases ht : t < nt
 · rw [h1 t ht]; exact k3 t
 · rw [h2 t (by omega)]
   have : a.tmps.getD t undef = undef := by
    rw [Array.getD_eq_getD_getElem?, wy (by omega)]; rfl
   rw [this]; exact tX
section
variable {V : il}
theorem Qi (hV : qC V) {ev : tw} (he : uN V ev) : yW V (vH V ev) := fun o args e k h => by
 simp only [vH] at h
 split at h
 · rename_i L hL
   simp only [cF] at h
   obtain ⟨⟨h1, h2⟩, h3⟩ := h
   refine lO.Gl hL (eT h1) (fun t ht => ?_) ?_
   · rw [eY] at h2
     have := h2 t ht
     simpa [Nat.blt_eq] using this
   · have h4 := he _ _ _ _ _ _ _ _ h3
     refine bO.env (dV := eV (qY (wv L.ρ L.params.toList args) L.nt .e)) (fun t ht => ?_) (fun t ht => ?_) ?_
     · simp only [eV]; rw [tm, if_pos ht]; rfl
     · simp only [eV]; rw [tm, if_neg (by omega)]; rfl
     · refine h4.mono ?_
       intro ex ρ U hc
       cases ex with
       | normal =>
         obtain ⟨t, e', rfl, rfl, hk⟩ := hc
         dsimp only at hk
         split at hk
         · rename_i L' H9
           simp only [cF] at hk
           refine ⟨L', H9, ?_, ?_⟩
           · have := hk.1
             cases hs : L'.state <;> rw [hs] at this <;> first
              | rfl
              | (simp [isReady] at this)
           · have h5 := he _ _ _ _ _ _ _ _ hk.2
             rw [mG] at h5
             refine h5.mono ?_
             intro ex ρ U zD
             cases ex with
             | normal =>
               obtain ⟨t', e2, rfl, rfl, fY⟩ := zD
               simp only [endRound] at fY
               split at fY
               · rename_i L2 Lw; exact ⟨L2, Lw, _, (mG _ _ _).symm, fY⟩
               · cases fY
             | ret =>
               obtain ⟨t', e2, rfl, rfl, fY⟩ := zD
               simp only [endRound] at fY
               split at fY
               · rename_i L2 Lw; exact ⟨L2, Lw, _, (mG _ _ _).symm, fY⟩
               · cases fY
             | exit id =>
               obtain ⟨t', e2, rfl, rfl, fY⟩ := zD
               simp only [endRound] at fY
               split at fY
               · rename_i L2 Lw; exact ⟨L2, Lw, _, (mG _ _ _).symm, fY⟩
               · cases fY
             | panic x =>
               obtain ⟨e2, rfl, fY⟩ := zD
               simp only [endRound] at fY
               split at fY <;> cases fY
         · cases hk
       | exit id => obtain ⟨t, e', rfl, rfl, hk⟩ := hc; cases hk
       | ret => obtain ⟨t, e', rfl, rfl, hk⟩ := hc; cases hk
       | panic x => obtain ⟨e', rfl, hk⟩ := hc; cases hk
 · cases h
theorem QF (hV : qC V) (n : Nat) (ihs : ∀ m, m < n -> uN V (nv V m)) : uN V (nv V n) := by
 cases n with
 | zero => intro nt mu tag ro c ρ e k h; cases h
 | succ n =>
   intro nt mu tag ro c ρ e k h
   have ih := ihs n (Nat.lt_succ_self n)
   have hf := E9 hV ih
   have hy := Qi hV ih
   by_cases hl : ∃ a, c = .loop a
   · obtain ⟨a, rfl⟩ := hl
     refine bO.loop (fun j ρ U => j <= n + 1 /\ ∃ t e, ρ = eV t /\ U = bX e /\ nv V j nt mu tag ro (.loop a) t e k = true) (n := n + 1) ⟨cG _, ρ, e, rfl, rfl, h⟩ ?_
     rintro j dV af ⟨hj, t, e', rfl, rfl, hk⟩
     cases j with
     | zero => cases hk
     | succ j =>
       simp only [nv] at hk
       refine (ihs j (by omega) _ _ _ _ _ _ _ _ hk).mono ?_
       intro ex rP bI hc
       cases ex with
       | normal =>
         obtain ⟨t2, e2, rfl, rfl, fY⟩ := hc
         exact ⟨j, Nat.lt_succ_self j, by omega, t2, e2, rfl, rfl, fY⟩
       | exit id => exact hc
       | ret => exact hc
       | panic x => exact hc
   simp only [nv] at h
   split at h
   · exact bO.skip ⟨ρ, e, rfl, rfl, h⟩
   · exact bO.exit ⟨ρ, e, rfl, rfl, h⟩
   · exact bO.ret ⟨ρ, e, rfl, rfl, h⟩
   · rename_i a b
     refine bO.seq ((ih _ _ _ _ _ _ _ _ h).mono ?_)
     intro ex dV af hc
     cases ex with
     | normal =>
       obtain ⟨t, e', rfl, rfl, hk⟩ := hc
       exact ih _ _ _ _ _ _ _ _ hk
     | exit id => exact hc
     | ret => exact hc
     | panic x => exact hc
   · rename_i x a b
     split at h
     · rename_i hc; exact bO.aaA hc (ih _ _ _ _ _ _ _ _ h)
     · rename_i hc; exact bO.aaz hc (ih _ _ _ _ _ _ _ _ h)
     · cases h
   · rename_i id a
     refine bO.block ((ih _ _ _ _ _ _ _ _ h).mono ?_)
     intro ex dV af hc
     cases ex with
     | normal => exact hc
     | exit zJ =>
       obtain ⟨t, e', rfl, rfl, hk⟩ := hc
       simp only [xy]
       dsimp only at hk
       split
       · rename_i hid
         subst hid
         rw [Nat.beq_refl, cond_true] at hk
         exact ⟨t, e', rfl, rfl, hk⟩
       · rename_i hid
         rw [yb hid, cond_false] at hk
         exact ⟨t, e', rfl, rfl, hk⟩
     | ret => exact hc
     | panic x => exact hc
   · rename_i a
     exact (hl ⟨a, rfl⟩).elim
   · rename_i id ops
     simp only [cF] at h
     refine bO.region mu h.1 (tS ?_ ?_ _ (Ah hf hy _ _ _ h.2))
     · rintro dV af ⟨t, e', rfl, rfl, hk⟩
       exact ⟨t, e', rfl, rfl, hk⟩
     · rintro v af ⟨e', rfl, hk⟩ dV
       exact ⟨e', rfl, hk⟩
   · rename_i id ops
     split at h
     · simp only [cF] at h
       refine bO.wz mu _ _ hV.mixed h.1.1 (by rw [cF]; exact h.1.2) (jP ?_ ?_ _ (nH hV hf hy _ _ _ h.2))
       · rintro dV af ⟨t, e', rfl, rfl, hk⟩
         exact ⟨t, e', rfl, rfl, hk⟩
       · rintro v af ⟨e', rfl, hk⟩ dV
         exact ⟨e', rfl, hk⟩
     · rename_i rows dv I post _
       simp only [cF] at h
       have hkp : ∀ v U, kA (fun x e => k (.panic x) .e e) v U -> xo (kC k) v U := by
        rintro v af ⟨e', rfl, hk⟩ dV
        exact ⟨e', rfl, hk⟩
       refine bO.MX (B := preB V mu e ops.toList ρ []) (mu := mu) dv I post hV.mixed h.1 (HD h.2.1) (jP ?_ hkp _ (nH hV hf hy _ _ _ h.2.2))
       rintro dV af ⟨t, e', rfl, rfl, hk⟩
       obtain ⟨zJ, q1, q2, q3, t2, e2, q4, q5, q6⟩ := UN t e' hk
       refine ⟨zJ, q1, q2, q3, ?_⟩
       have key := jP (K' := KQ (kC k)) (by
        rintro rP bI ⟨t3, e3, rfl, rfl, hk⟩
        exact ⟨t3, e3, rfl, rfl, hk⟩) hkp _ (nH hV hf hy _ _ _ q6)
       rw [<- q4, <- q5] at key
       exact key
   · rename_i f ps assign body
     split at h
     · rename_i iK first cap hfn
       simp only [cF] at h
       refine bO.rangeFunc tag hfn h.1 fun o ho => ?_
       have := sy ho
       subst this
       rw [<- qX]
       refine (hf _ _ _ _ h.2).mono ?_
       rintro r U ⟨e', rfl, hk⟩
       cases r with
       | ret v =>
         simp only [Fh] at hk
         split at hk
         · rename_i L hL
           simp only [cF, Bool.not_eq_true'] at hk
           refine ⟨L, hL, fun hb => ?_, ?_⟩
           · rw [hb] at hk; simp [Mi] at hk
           · have fY := hk.2
             rw [<- AI]
             split at fY
             · rename_i hp; try rw [hp]
               exact ⟨_, _, rfl, rfl, fY⟩
             · rename_i hp; try rw [hp]
               exact ⟨_, _, rfl, rfl, fY⟩
             · rename_i id hp; try rw [hp]
               exact ⟨_, _, rfl, rfl, fY⟩
             · cases fY
         · cases hk
       | panic x => exact ⟨e', rfl, hk⟩
     · cases h
   · cases h
theorem Xw (hV : qC V) (n : Nat) : uN V (nv V n) := by
 induction n using Nat.strongRecOn with
 | _ n ih => exact QF hV n ih
theorem Xx {V : il} (hV : qC V) (n f : Nat) (args : List AV) (e : ES) (k : KR) (h : sd V (nv V n) f args e k = true) : ad V.C f args (bX e) (kR k) := E9 hV (Xw hV n) f args e k h
end
end Go.Rip
namespace Go.Rip
open Go.RowKit
mutual
def closed : AV -> Bool
 | .box _ _ | .ms _ _ _ _ _ | .mp _ | .rO _ | .it _ => false
 | .vec _ (.own _) _ => false
 | .vec _ _ l => cL l
 | .cP l => cL l
 | .fS ks vs => cL ks && cL vs
 | .func _ a b => cL a && cL b
 | .iface _ v => closed v
 | .agg l => cL l
 | .aU l => cL l
 | _ => true
def cL : List AV -> Bool
 | [] => true
 | x :: xs => closed x && cL xs
end
mutual
theorem aB.closed {g g' : Gh} (hi : ∀ b o x, g.cB b o = some x -> g'.cB b o = some x) (hm : ∀ b x, g.bZ b = some x -> g'.bZ b = some x) : ∀ (x : AV) (v : Value), closed x = true -> aB g x v -> aB g' x v
 | .bool _, _, _, hr => hr
 | .int _ _, _, _, hr => hr
 | .str _, _, _, hr => hr
 | .bj, _, _, hr => hr
 | .ak, _, _, hr => hr
 | .kx, _, _, hr => hr
 | .jt, _, _, hr => hr
 | .dq, _, _, hr => hr
 | .box _ _, _, hc, _ => by cases hc
 | .ms _ _ _ _ _, _, hc, _ => by cases hc
 | .mp _, _, hc, _ => by cases hc
 | .rO _, _, hc, _ => by cases hc
 | .it _, _, hc, _ => by cases hc
 | .cP l, _, hc, hr => by
   simp only [aB] at hr ⊢
   obtain ⟨aO, off, vs, hv, h1, h2⟩ := hr
   exact ⟨aO, off, vs, hv, fun i u hu => hi _ _ _ (h1 i u hu), aN.closed hi hm l vs hc h2⟩
 | .vec n cap l, _, hc, hr => by
   simp only [aB] at hr ⊢
   obtain ⟨aO, off, c, vs, hv, h1, h2, h3, h4, h5⟩ := hr
   cases cap with
   | own τ => cases hc
   | full => exact ⟨aO, off, c, vs, hv, h1, h2, h3, fun i u hu => hi _ _ _ (h4 i u hu), aN.closed hi hm l vs hc h5⟩
   | gC => exact ⟨aO, off, c, vs, hv, h1, h2, trivial, fun i u hu => hi _ _ _ (h4 i u hu), aN.closed hi hm l vs hc h5⟩
 | .fS ks vs, _, hc, hr => by
   simp only [aB] at hr ⊢
   simp only [Go.Rip.closed, cF] at hc
   obtain ⟨r, es, c, l, hv, he, hp, hs, h1, h2⟩ := hr
   exact ⟨r, es, c, l, hv, hm _ _ he, hp, hs, aN.closed hi hm ks _ hc.1 h1, aN.closed hi hm vs _ hc.2 h2⟩
 | .func fn first captured, _, hc, hr => by
   simp only [aB] at hr ⊢
   simp only [Go.Rip.closed, cF] at hc
   obtain ⟨fs, cs, hv, h1, h2⟩ := hr
   exact ⟨fs, cs, hv, aN.closed hi hm first _ hc.1 h1, aN.closed hi hm captured _ hc.2 h2⟩
 | .iface t x, _, hc, hr => by
   simp only [aB] at hr ⊢
   obtain ⟨u, hv, h1⟩ := hr
   exact ⟨u, hv, aB.closed hi hm x _ hc h1⟩
 | .agg l, _, hc, hr => by
   simp only [aB] at hr ⊢
   obtain ⟨vs, hv, h0, h1⟩ := hr
   exact ⟨vs, hv, h0, aN.closed hi hm l _ hc h1⟩
 | .aU l, _, hc, hr => by
   simp only [aB] at hr ⊢
   obtain ⟨vs, hv, h1⟩ := hr
   exact ⟨vs, hv, aN.closed hi hm l _ hc h1⟩
 | .any, _, _, _ => by simp only [aB]
theorem aN.closed {g g' : Gh} (hi : ∀ b o x, g.cB b o = some x -> g'.cB b o = some x) (hm : ∀ b x, g.bZ b = some x -> g'.bZ b = some x) : ∀ (l : List AV) (vs : List Value), cL l = true -> aN g l vs -> aN g' l vs
 | [], _, _, hr => by simpa only [aN] using hr
 | x :: xs, _, hc, hr => by
   simp only [aN] at hr ⊢
   simp only [cL, cF] at hc
   obtain ⟨u, us, hv, h1, h2⟩ := hr
   exact ⟨u, us, hv, aB.closed hi hm x _ hc.1 h1, aN.closed hi hm xs _ hc.2 h2⟩
end
def resolve : Nat -> St -> AV -> AV
 | 0, _, _ => .any
 | n + 1, U, x => match x with
   | .box b off => match U.box b with
     | some l => .cP ((l.map (resolve n U)).drop off)
     | none => .any
   | .ms b off k _ _ => match U.box b with
     | some l => .vec k .gC ((l.map (resolve n U)).drop off)
     | none => .any
   | .mp m => match U.mp m with
     | some (ks, vs) => .fS ks (vs.map (resolve n U))
     | none => .any
   | .vec k .full l => .vec k .full (l.map (resolve n U))
   | .vec k _ l => .vec k .gC (l.map (resolve n U))
   | .cP l => .cP (l.map (resolve n U))
   | .fS ks vs => .fS ks (vs.map (resolve n U))
   | .func f a b => .func f (a.map (resolve n U)) (b.map (resolve n U))
   | .iface t v => .iface t (resolve n U v)
   | .agg l => .agg (l.map (resolve n U))
   | .aU l => .aU (l.map (resolve n U))
   | .rO _ | .it _ => .any
   | x => x
noncomputable def Gh.all (g : Gh) (w : World) : Gh :=
 { g with
  cB := fun q o => if g.base <= q then (match w.cell? ⟨q, o, none⟩ with | some u => if u.oneCell' = true then some u else none | none => none) else g.cB q o
  bZ := fun q => if g.base <= q then (match w.heap[q]? with | some (.map es c) => if h : (open Classical in decide (kg es c)) = true then some (es, c) else none | _ => none) else g.bZ q }
theorem HQ {g : Gh} {w : World} {q o : Nat} {u : Value} (hq : g.base <= q) (hc : w.cell? ⟨q, o, none⟩ = some u) (h1 : u.oneCell' = true) : (g.all w).cB q o = some u := by
 show (if _ then _ else _) = _
 rw [if_pos hq, hc]; simp [h1]
theorem ER {g : Gh} {w : World} {q : Nat} {es : Array MapEntry} {c : Nat} (hq : g.base <= q) (hc : w.heap[q]? = some (.map es c)) (h1 : kg es c) : (g.all w).bZ q = some (es, c) := by
 show (if _ then _ else _) = _
 rw [if_pos hq, hc]; simp [h1]
theorem br.BJ {g : Gh} {U : St} {w : World} (h : br g U w) : Gh.Le g (g.all w) := by
 refine ⟨rfl, rfl, fun _ _ h => h, fun b o x hx => ?_, fun b x hx => ?_, fun _ h => h, fun b o hb => ?_, fun b hb => ?_⟩
 · by_cases hq : g.base <= b
   · exact HQ hq (h.cB _ _ _ hx).1 (h.cB _ _ _ hx).2
   · show (if _ then _ else _) = _
     rw [if_neg hq]; exact hx
 · by_cases hq : g.base <= b
   · exact ER hq (h.bZ _ _ _ hx).1 (h.bZ _ _ _ hx).2
   · show (if _ then _ else _) = _
     rw [if_neg hq]; exact hx
 · show (if _ then _ else _) = _
   rw [if_neg (by omega)]
 · show (if _ then _ else _) = _
   rw [if_neg (by omega)]
theorem vK {g : Gh} {U : St} {w : World} (h : br g U w) (q o : Nat) (u : Value) (hu : (g.all w).cB q o = some u) : w.cell? ⟨q, o, none⟩ = some u /\ u.oneCell' = true := by
 have hu : (if g.base <= q then (match w.cell? ⟨q, o, none⟩ with | some u => if u.oneCell' = true then some u else none | none => none) else g.cB q o) = some u := hu
 split at hu
 · split at hu
   · rename_i x hx
     split at hu
     · cases hu; exact ⟨hx, by assumption⟩
     · cases hu
   · cases hu
 · exact h.cB _ _ _ hu
theorem ug {g : Gh} {U : St} {w : World} (h : br g U w) (q : Nat) (es : Array MapEntry) (c : Nat) (hu : (g.all w).bZ q = some (es, c)) : w.heap[q]? = some (.map es c) /\ kg es c := by
 have hu : (if g.base <= q then (match w.heap[q]? with | some (.map es c) => if h : (open Classical in decide (kg es c)) = true then some (es, c) else none | _ => none) else g.bZ q) = some (es, c) := hu
 split at hu
 · split at hu
   · rename_i uU c' hx
     split at hu
     · rename_i hb
       cases hu; exact ⟨hx, by simpa using hb⟩
     · cases hu
   · cases hu
 · exact h.bZ _ _ _ hu
theorem AA {g g' : Gh} {f : AV -> AV} : ∀ {l : List AV} {vs : List Value}, (∀ x v, x ∈ l -> aB g x v -> aB g' (f x) v) -> aN g l vs -> aN g' (l.map f) vs
 | [], _, _, h => by simpa only [aN, jk] using h
 | x :: xs, _, hf, h => by
   simp only [aN, et] at h ⊢
   obtain ⟨u, us, hv, h1, h2⟩ := h
   exact ⟨u, us, hv, hf x u (by simp) h1, AA (fun y v hy => hf y v (by simp [hy])) h2⟩
theorem zS {g : Gh} {U : St} {w : World} (h : br g U w) : ∀ (n : Nat) (x : AV) (v : Value), aB g x v -> aB (g.all w) (resolve n U x) v := by
 intro n
 induction n with
 | zero => intro x v _; simp only [resolve, aB]
 | succ n ih =>
   intro x v hr
   have hl := h.BJ
   have sW : ∀ {l : List AV} {vs : List Value}, aN g l vs -> aN (g.all w) (l.map (resolve n U)) vs := fun h => AA (fun y v _ hy => ih y v hy) h
   have hi : ∀ {aO off : Nat} {vs : List Value}, kM g aO off vs -> kM (g.all w) aO off vs := fun h => h.mono hl
   have box : ∀ {b off : Nat} {l : List AV} {p : Place}, U.box b = some l -> g.place b = some p -> ∃ vs, kM (g.all w) p.aO off vs /\ aN (g.all w) ((l.map (resolve n U)).drop off) vs := fun {b off l p} hb hp => by
    obtain ⟨x', cur, vs, rest, k1, k2, k3, k4, k5, k6, k7, k8⟩ := h.box b l hb
    have k1 : g.place b = some x' := k1
    rw [hp] at k1; cases k1
    refine ⟨vs.drop off, fun i u hu => ?_, (sW k6).drop off⟩
    rw [List.getElem?_drop] at hu
    have aL : off + i < vs.length := by
     rcases eZ (off + i) vs.length with h | h
     · exact h
     · simp [l9 h] at hu
    have hc : cur[off + i]? = some u := by rw [<- kB, k5, wx aL]; exact hu
    exact HQ k2 (by rw [cell_of_row _ _ _ cur p.e (0, 0) k3]; exact hc) (k7 u (gK (by rw [kB]; exact hc)))
   cases x with
   | box b off =>
     simp only [resolve]
     cases hb : U.box b with
     | none => simp only [aB]
     | some l =>
       simp only [aB] at hr ⊢
       obtain ⟨p, hp, rfl⟩ := hr
       obtain ⟨vs, h1, h2⟩ := box (off := off) hb hp
       exact ⟨p.aO, off, vs, rfl, h1, h2⟩
   | ms b off k iC e =>
     simp only [resolve]
     cases hb : U.box b with
     | none => simp only [aB]
     | some l =>
       simp only [aB] at hr ⊢
       obtain ⟨p, c, hp, rfl, q1, q2, _⟩ := hr
       obtain ⟨vs, h1, h2⟩ := box (off := off) hb hp
       exact ⟨p.aO, off, c, vs, rfl, q1, q2, trivial, h1, h2⟩
   | mp m =>
     simp only [resolve]
     cases hm : U.mp m with
     | none => simp only [aB]
     | some kv =>
       obtain ⟨ks, vs⟩ := kv
       simp only [aB] at hr ⊢
       obtain ⟨r, hr, rfl⟩ := hr
       obtain ⟨r', es, clock, q1, q2, q3, qb, ⟨l, q4, q5, q6, q7⟩, q8⟩ := h.mp m _ hm
       rw [hr] at q1; cases q1
       exact ⟨r, es, clock, l, rfl, ER q2 q3 qb, q4, q5, q6.mono hl, sW q7⟩
   | vec k c l =>
     simp only [aB] at hr
     obtain ⟨aO, off, c', vs, rfl, h1, h2, h3, h4, h5⟩ := hr
     cases c with
     | full => simp only [resolve, aB]; exact ⟨aO, off, c', vs, rfl, h1, h2, h3, hi h4, sW h5⟩
     | own τ => simp only [resolve, aB]; exact ⟨aO, off, c', vs, rfl, h1, h2, trivial, hi h4, sW h5⟩
     | gC => simp only [resolve, aB]; exact ⟨aO, off, c', vs, rfl, h1, h2, trivial, hi h4, sW h5⟩
   | cP l =>
     simp only [resolve, aB] at hr ⊢
     obtain ⟨aO, off, vs, rfl, h1, h2⟩ := hr
     exact ⟨aO, off, vs, rfl, hi h1, sW h2⟩
   | fS ks vs =>
     simp only [resolve, aB] at hr ⊢
     obtain ⟨r, es, c, l, rfl, he, hp, hs, h1, h2⟩ := hr
     exact ⟨r, es, c, l, rfl, hl.bZ _ _ he, hp, hs, h1.mono hl, sW h2⟩
   | func f a b =>
     simp only [resolve, aB] at hr ⊢
     obtain ⟨fs, cs, rfl, h1, h2⟩ := hr
     exact ⟨fs, cs, rfl, sW h1, sW h2⟩
   | iface t x =>
     simp only [resolve, aB] at hr ⊢
     obtain ⟨u, rfl, h1⟩ := hr
     exact ⟨u, rfl, ih _ _ h1⟩
   | agg l =>
     simp only [resolve, aB] at hr ⊢
     obtain ⟨vs, rfl, h0, h1⟩ := hr
     exact ⟨vs, rfl, h0, sW h1⟩
   | aU l =>
     simp only [resolve, aB] at hr ⊢
     obtain ⟨vs, rfl, h1⟩ := hr
     exact ⟨vs, rfl, sW h1⟩
   | rO o => simp only [resolve, aB]
   | it o => simp only [resolve, aB]
   | any => simp only [resolve, aB]
   | bool b => simp only [resolve]; exact hr.mono hl
   | int k n => simp only [resolve]; exact hr.mono hl
   | str s => simp only [resolve]; exact hr.mono hl
   | bj => simp only [resolve]; exact hr.mono hl
   | ak => simp only [resolve]; exact hr.mono hl
   | kx => simp only [resolve]; exact hr.mono hl
   | jt => simp only [resolve]; exact hr.mono hl
   | dq => simp only [resolve]; exact hr.mono hl
theorem Pure.za {C : cV} {f : Nat} {args : List AV} {x : AV} (Bn : ∀ i, closed (C.xH i) = true) (hargs : cL args = true) (hx : closed x = true) (d : Nat)
 (h : ad C f args (bX ⟨.e, 0⟩) (fun r U => ∃ v, r = .ret v /\ resolve d U v = x)) : Pure C f args x := by
 intro U R hR g w vs hs hG ha
 let g0 : Gh := { base := w.heap.size, w0 := w, place := fun _ => none, cB := g.cB, bZ := g.bZ, res := fun _ => false }
 have tJ : br g0 (bX ⟨.e, 0⟩) w := {
  below := Below.refl _ _
  le := cG _
  cB := hs.cB
  bZ := hs.bZ
  live := fun b x hb => by cases hb
  apart := fun b b' x x' p p' hb => by cases hb
  res := fun r hr => by cases hr
  fin := ⟨0, fun n hn => by cases hn; rfl, fun _ _ => rfl⟩ }
 have Lv : gZ C g0 := ⟨fun i => aB.closed (g := g) (g' := g0) (fun _ _ _ h => h) (fun _ _ h => h) _ _ (Bn i) (hG.1 i), fun i cs hi => by
  obtain ⟨k1, t, fr, k2⟩ := hG.2 i cs hi
  refine ⟨Nat.lt_of_lt_of_le k1 hs.le, t, fr, ?_⟩
  show w.heap[i]? = _
  rw [hs.below.block i k1]; exact k2⟩
 have XP : aN g0 args vs := aN.closed (g := g) (g' := g0) (fun _ _ _ h => h) (fun _ _ h => h) _ _ hargs ha
 refine (h g0 w vs tJ Lv XP).mono ?_
 rintro e w' hp
 cases e with
 | panicked ch => obtain ⟨g', af, y, v, _, _, _, _, z, hz, _⟩ := hp; cases hz
 | outgrown => exact hp.elim
 | returned v =>
   obtain ⟨g', af, y, h1, h2, h3, z, hz, hres⟩ := hp
   cases hz
   have cq := zS h2 d y v h3
   rw [hres] at cq
   have sV := h2.BJ
   have hle := h1.trans sV
   have ac2 : g'.base = w.heap.size := h1.base
   have vR : Below w.heap.size w w' := by
    have := h2.below
    rw [h1.base, h1.w0] at this
    exact this
   let gF : Gh := { base := g.base, w0 := g.w0, place := g.place, cB := (g'.all w').cB, bZ := (g'.all w').bZ, res := g.res }
   have FB : Gh.Le g gF := ⟨rfl, rfl, fun _ _ h => h, fun b o u hu => hle.cB b o u hu, fun b u hu => hle.bZ b u hu, fun _ h => h,
    fun b o hb => hle.xX b o (by show b < w.heap.size; have := hs.le; omega), fun b hb => hle.u7 b (by show b < w.heap.size; have := hs.le; omega)⟩
   refine ⟨gF, U, x, FB, ?_, aB.closed (g := g'.all w') (g' := gF) (fun _ _ _ h => h) (fun _ _ h => h) x v hx cq, hR⟩
   exact {
    below := hs.below.trans (vR.mono hs.le)
    le := Nat.le_trans hs.le vR.size
    cB := fun q o u hu => vK h2 q o u hu
    bZ := fun q es c hu => ug h2 q es c hu
    live := fun b l hb => by
     obtain ⟨p, k1, k2, k3⟩ := hs.live b l hb
     have aL := k3.lt
     exact ⟨p, k1, k2, k3.frame FB.r (vR.block _ aL) (fun o => hle.xX _ o aL) (hle.u7 _ aL)⟩
    apart := hs.apart
    res := fun r hr => by
     obtain ⟨k1, k2⟩ := hs.res r hr
     exact ⟨k1, by rw [vR.block _ (kz.1 k2).1]; exact k2⟩
    fin := hs.fin }
def aa5 (d : Nat) (x : AV) : KR
 | .ret v, e => jd (resolve d (bX e) v) x
 | .panic _, _ => false
theorem Pure.eX {V : il} (hV : qC V) (n d : Nat) {f : Nat} {args : List AV} {x : AV} (Bn : ∀ i, closed (V.C.xH i) = true) (h : (cL args && closed x && sd V (nv V n) f args ⟨.e, 0⟩ (aa5 d x)) = true) : Pure V.C f args x := by
 simp only [cF] at h
 refine Pure.za Bn h.1.1 h.1.2 d ((Xx hV n f args ⟨.e, 0⟩ _ h.2).mono ?_)
 rintro r U ⟨e, rfl, hk⟩
 cases r with
 | ret v => exact ⟨v, rfl, y3 hk⟩
 | panic v => cases hk
end Go.Rip
namespace Go.Rip
open Go.RowKit
def SO (R : St -> Prop) : Ex -> Env -> St -> Prop
 | .normal, _, U => R U
 | .ret, _, U => R U
 | _, _, _ => False
theorem Vf {C : cV} {f : FuncId} {fn : Func} {id : Nat} {o : Oper} {d : Nat} {rest : Code} {args : List AV} {U : St} {g : Gh} {w : World} {vs : List Value}
 (hf : C.P.funcs[f]? = some fn) (hb : fn.body = some (.seq (.region id #[o] false) rest)) (hres : fn.results = #[]) (hop : ∀ ev w, (execOp ev o).run C.P w = .ok .recover w) (hd : o.dst = some d) (hdn : d < fn.ntmps) (hg : o.guard = none)
 (hlen : args.length <= fn.ntmps) (hs : br g U w) (hG : gZ C g) (ha : aN g args vs) {x : AV} {v : Value} {u u' : FrameMode} (hx : aB g x v)
 (hu : (u = .returning /\ v = .nilIface /\ u' = .returning) \/ (u = .panicking [{ v, recovered := false }] /\ u' = .panicking [{ v, recovered := true }])) (R : St -> Prop)
 (h : bO C fn.ntmps .bare rest (SO R) ((Env.jg args).put d x) U) :
 CallsDIn Fence.wide 0 C.P f vs.toArray u w (fun e u2 w' => ∃ v', e = .returned v' /\ u2 = u' /\ ∃ g' af, Gh.Le g g' /\ br g' af w' /\ R af) := by
 refine callsDIn_of_wpSIn hf hb trivial fun Fc cs hm => ?_
 refine wpSIn_seq (wpSIn_region ?_)
 have hl := ha.length
 have fi : (vs.toArray ++ Array.replicate (fn.ntmps - vs.toArray.size) undef).size = fn.ntmps := by simp; omega
 have CJ : gr g (Env.jg args) (vs.toArray ++ Array.replicate (fn.ntmps - vs.toArray.size) undef) := Ad args vs _ ha
 have ab1 := CJ.put (d := d) (by rw [fi]; exact hdn) hx
 have after : ∀ A8, (A8 = { Fc with mode := u' } :: cs) -> rest.wpSIn Fence.wide 0 C.P (bodyPostS C.P fn Fc cs fun e u2 w' => ∃ v', e = .returned v' /\ u2 = u' /\ ∃ g' af, Gh.Le g g' /\ br g' af w' /\ R af)
  (Act.put { tmps := vs.toArray ++ Array.replicate (fn.ntmps - vs.toArray.size) undef, defers := [] } o.dst v) A8 w := fun A8 sQ => by
  refine wpSIn_of_wpIn rfl ?_
  have := h g w (Act.put { tmps := vs.toArray ++ Array.replicate (fn.ntmps - vs.toArray.size) undef, defers := [] } o.dst v) none hs hG (by rw [hd]; exact ab1) (by rw [(nQ _ _ _).2]; exact fi) trivial
  refine wpIn_mono this ?_
  rintro e a w' ⟨q1, g', af, dV, ms, q2, q3, q4, q5, q6, q7⟩
  have xQ : ms = [] := q3.none rfl
  subst xQ
  rw [(nQ _ _ _).1] at q2
  simp only [jk, oJ] at q2
  have hr : ∀ tmps, (results fn tmps).run C.P w' = .ok (.tuple #[]) w' := fun tmps => by
   unfold results
   rw [hres]
   simp
  cases e with
  | normal => exact ⟨q2, u', sQ, _, hr _, _, rfl, rfl, g', af, q4, q5, q7⟩
  | ret => exact ⟨q2, u', sQ, _, hr _, _, rfl, rfl, g', af, q4, q5, q7⟩
  | exit id => exact q7.elim
  | panic ch => obtain ⟨_, _, _, _, hf⟩ := q7; exact hf.elim
  | goto l => exact q7.elim
  | outgrown => exact q7.elim
 have hw : Region.wanted o (yielded #[o] (vs.toArray ++ Array.replicate (fn.ntmps - vs.toArray.size) undef)) = true := by simp [Region.wanted, hg]
 show wpOpsSIn Fence.wide 0 C.P #[o] _ [0] _ _ _
 simp only [wpOpsSIn, List.getElem?_toArray, List.getElem?_cons_zero, hw, if_true, hop]
 refine ⟨fun _ _ => trivial, ?_⟩
 rcases hu with ⟨rfl, rfl, rfl⟩ | ⟨rfl, rfl⟩
 · have e1 : recoverD (Fc :: cs) = none := by simp [recoverD, hm]
   rw [e1]
   exact after _ (by rw [<- hm])
 · have e1 : recoverD (Fc :: cs) = some (v, { Fc with mode := .panicking [{ v, recovered := true }] } :: cs) := by simp [recoverD, hm]
   rw [e1]
   exact after _ rfl
end Go.Rip
