/- Lemmas for the proof: no conditions. -/
import Derived.Test.YtnfpmiiopiinbaaGreatDoorRipZz
import Derived.Test.YtnfpmiiopiinbaaGreatDoorRipA
import Derived.OrdersIn
import Derived.RecoverIn
set_option linter.unusedVariables false
set_option linter.unusedSimpArgs false
set_option linter.loopingSimpArgs false
namespace Go.Rip
open Go.RowKit
inductive cB where
 | ret (x : AV)
 | panic (x : AV)
inductive Ex where
 | normal
 | exit (id : Nat)
 | ret
 | panic (x : AV)
def FW (ro : Option Nat) : Fence := { Fence.wide with round := ro }
def lV (g : Gh) (R : cB -> St -> Prop) : Ending -> World -> Prop
 | .returned v, w' => ∃ g' ae x, Gh.Le g g' /\ aZ g' ae w' /\ aw g' x v /\ R (.ret x) ae
 | .panicked ch, w' => ∃ g' ae x v, ch = [{ v, recovered := false }] /\ Gh.Le g g' /\ aZ g' ae w' /\ aw g' x v /\ R (.panic x) ae
 | .outgrown, _ => False
def af (C : cr) (f : FuncId) (args : List AV) (U : St) (R : cB -> St -> Prop) : Prop :=
 ∀ g w vs, aZ g U w -> fJ C g -> aD g args vs -> CallsIn Fence.wide 0 C.P f (List.toArray vs) w (lV g R)
def jJ (C : cr) (o : Nat) (args : List AV) (U : St) (R : cB -> St -> Prop) : Prop :=
 ∀ g w vs x, aZ g U w -> fJ C g -> aD g args vs -> g.place o = some x -> ∃ fn tmps assign body, (Instr.yield x.aG (List.toArray vs)).run C.P w = .ok (.round x.aG fn tmps assign body) w /\
  RoundIn Fence.wide 0 C.P x.aG fn tmps assign body w (lV g R)
theorem lV.mono {g : Gh} {R R' : cB -> St -> Prop} {e : Ending} {w : World} (h : lV g R e w) (hr : ∀ r U, R r U -> R' r U) : lV g R' e w := by
 cases e with
 | returned v => obtain ⟨g', ae, x, h1, h2, h3, h4⟩ := h; exact ⟨g', ae, x, h1, h2, h3, hr _ _ h4⟩
 | panicked ch => obtain ⟨g', ae, x, v, h0, h1, h2, h3, h4⟩ := h; exact ⟨g', ae, x, v, h0, h1, h2, h3, hr _ _ h4⟩
 | outgrown => exact h
theorem af.mono {C : cr} {f : FuncId} {args : List AV} {U : St} {R R' : cB -> St -> Prop} (h : af C f args U R) (hr : ∀ r U, R r U -> R' r U) : af C f args U R' :=
 fun g w vs hs hG ha => (h g w vs hs hG ha).mono fun _ _ hp => hp.mono hr
theorem jJ.mono {C : cr} {f : Nat} {args : List AV} {U : St} {R R' : cB -> St -> Prop} (h : jJ C f args U R) (hr : ∀ r U, R r U -> R' r U) : jJ C f args U R' :=
 fun g w vs x hs hG ha hx => let ⟨a, b, c, d, e, r⟩ := h g w vs x hs hG ha hx; ⟨a, b, c, d, e, r.mono fun _ _ hp => hp.mono hr⟩
def ar (K : AV -> St -> Prop) (Kp : AV -> St -> Prop) : cB -> St -> Prop
 | .ret x, U => K x U
 | .panic x, U => Kp x U
def av.wp (C : cr) (U : St) (K : AV -> St -> Prop) (Kp : AV -> St -> Prop) : av -> Prop
 | .val v => K v U
 | .jD v b x => K v (U.set b x)
 | .new k del x => ∀ b, (U.pc del).cN b -> K (k.at b) ((U.pc del).new b x)
 | .ji b l => ∀ p ∈ l, K p.1 (U.set b p.2)
 | .enter f args => af C f args U (ar K Kp)
 | .yield l args => jJ C l args U (ar K Kp)
 | .panic v => Kp v U
 | @av.cond p _ r => p /\ r.wp C U K Kp
 | .bad => False
def fS (ops : Array Oper) (ρ : Env) : Option (Nat × Bool) -> AV
 | none => .bool true
 | some (j, want) => match (ops[j]?).bind (·.dst) with
   | some d => match ρ.get d with
     | .bool b => .bool (b == want)
     | .aO [] => .bool false
     | _ => .any
   | none => .any
def al : AV -> Prop -> Prop -> Prop
 | .bool b, A, B => (b = true -> A) /\ (b = false -> B)
 | _, _, _ => False
def mr (C : cr) (mu : List Nat) (ops : Array Oper) : List Oper -> Env -> St -> (Env -> St -> Prop) -> (AV -> St -> Prop) -> Prop
 | [], ρ, U, K, _ => K ρ U
 | o :: rest, ρ, U, K, Kp => al (fS ops ρ o.guard)
    ((gH C (match o.dst with | some d => mu.contains d | none => false) o.op ρ U).wp C U (fun v ae => mr C mu ops rest (ρ.dT o.dst v) ae K Kp) Kp)
    (mr C mu ops rest (ρ.dT o.dst (.aO [])) U K Kp)
def BY (r : Nat) : Deferred := { target := .collected r, args := #[] }
def CB (g : Gh) (Q : Ex -> Env -> St -> Prop) (ρ : Env) (U : St) : Exit -> Prop
 | .normal => Q .normal ρ U
 | .exit id => Q (.exit id) ρ U
 | .ret => Q .ret ρ U
 | .panic ch => ∃ x v, ch = [{ v, recovered := false }] /\ aw g x v /\ Q (.panic x) ρ U
 | .goto _ => False
 | .outgrown => False
inductive Ro where
 | fn
 | bare
 | round (o : Nat)
def Ro.nm : Ro -> Bool
 | .bare => true
 | _ => false
structure lQ (nm : Bool) (g g' : Gh) (ms : List Nat) : Prop where
 none : nm = true -> ms = []
 nodup : ms.Nodup
 res : ∀ r ∈ ms, g'.res r = true /\ g.res r = false
theorem jv (nm : Bool) (g g' : Gh) : lQ nm g g' [] := ⟨fun _ => rfl, List.nodup_nil, by simp⟩
theorem lQ.append {nm : Bool} {g g1 g2 : Gh} {m1 m2 : List Nat} (h1 : lQ nm g g1 m1) (h2 : lQ nm g1 g2 m2) (l1 : Gh.Le g g1) (l2 : Gh.Le g1 g2) : lQ nm g g2 (m2 ++ m1) := by
 refine ⟨fun h => by rw [h1.none h, h2.none h]; rfl, List.nodup_append.2 ⟨h2.nodup, h1.nodup, fun x hx y hy e => ?_⟩, fun r hr => ?_⟩
 · subst e
   have := (h2.res x hx).2
   rw [(h1.res x hy).1] at this; cases this
 · simp only [fH] at hr
   rcases hr with hr | hr
   · refine ⟨(h2.res r hr).1, ?_⟩
     cases e : g.res r with
     | false => rfl
     | true => have := (h2.res r hr).2; rw [l1.res _ e] at this; cases this
   · exact ⟨l2.res _ (h1.res r hr).1, (h1.res r hr).2⟩
def n0 (g : Gh) (nt : Nat) (nm : Bool) (ds : List Deferred) (Q : Ex -> Env -> St -> Prop) (e : Exit) (a : Act) (w : World) : Prop :=
 a.tmps.size = nt /\ ∃ g' U ρ ms, a.defers = ms.map BY ++ ds /\ lQ nm g g' ms /\ Gh.Le g g' /\ aZ g' U w /\ fj g' ρ a.tmps /\ CB g' Q ρ U e
def Ce (g : Gh) : Ro -> Option Nat -> Prop
 | .fn, none => True
 | .bare, none => True
 | .round o, some l => ∃ x, g.place o = some x /\ x.aG = l
 | _, _ => False
theorem Ce.mono {g g' : Gh} (h : Gh.Le g g') {ro : Ro} {fr : Option Nat} (hr : Ce g ro fr) : Ce g' ro fr := by
 cases ro <;> cases fr <;> simp only [Ce] at hr ⊢
 obtain ⟨x, h1, h2⟩ := hr
 exact ⟨x, h.place _ _ h1, h2⟩
def bp (C : cr) (nt : Nat) (ro : Ro) (c : Code) (Q : Ex -> Env -> St -> Prop) (ρ : Env) (U : St) : Prop :=
 ∀ g w a fr, aZ g U w -> fJ C g -> fj g ρ a.tmps -> a.tmps.size = nt -> Ce g ro fr -> c.wpIn (FW fr) 0 C.P (n0 g nt ro.nm a.defers Q) a w
section
variable {C : cr} {g : Gh} {U : St} {w : World} {nt : Nat} {nm : Bool} {ro : Ro} {Q : Ex -> Env -> St -> Prop} {ρ : Env}
theorem CB.mono {Q' : Ex -> Env -> St -> Prop} {e : Exit} (h : CB g Q ρ U e) (hq : ∀ e ρ U, Q e ρ U -> Q' e ρ U) : CB g Q' ρ U e := by
 cases e <;> first
  | exact hq _ _ _ h
  | (obtain ⟨x, v, h1, h2, h3⟩ := h; exact ⟨x, v, h1, h2, hq _ _ _ h3⟩)
  | exact h
theorem bp.mono {c : Code} {Q' : Ex -> Env -> St -> Prop} (h : bp C nt ro c Q ρ U) (hq : ∀ e ρ U, Q e ρ U -> Q' e ρ U) : bp C nt ro c Q' ρ U :=
 fun g w a fr h1 h2 h3 h4 qh => wpIn_mono (h g w a fr h1 h2 h3 h4 qh) fun e a' w' ⟨k1, g', ae, dv, ms, k2, k3, k4, k5, k6, k7⟩ => ⟨k1, g', ae, dv, ms, k2, k3, k4, k5, k6, k7.mono hq⟩
theorem n0.back {g' : Gh} {ds : List Deferred} {ms : List Nat} {e : Exit} {a : Act} (h : n0 g' nt nm (ms.map BY ++ ds) Q e a w) (vj : lQ nm g g' ms) (hle : Gh.Le g g') : n0 g nt nm ds Q e a w := by
 obtain ⟨k1, g2, ae, dv, Dw, k2, k3, k4, k5, k6, k7⟩ := h
 exact ⟨k1, g2, ae, dv, Dw ++ ms, by rw [k2, List.map_append, qD], vj.append k3 hle k4, hle.trans k4, k5, k6, k7⟩
def VS (K : Env -> St -> Prop) (Q : Ex -> Env -> St -> Prop) : Ex -> Env -> St -> Prop
 | .normal, ρ, U => K ρ U
 | e, ρ, U => Q e ρ U
theorem bp.seq {x y : Code} (h : bp C nt ro x (VS (fun ρ U => bp C nt ro y Q ρ U) Q) ρ U) : bp C nt ro (.seq x y) Q ρ U := by
 intro g w a fr h1 h2 h3 h4 qh
 refine wpIn_seq (wpIn_mono (h g w a fr h1 h2 h3 h4 qh) ?_)
 rintro e a' w' ⟨k1, g', ae, dv, ms, k2, k3, k4, k5, k6, k7⟩
 cases e with
 | normal =>
   have := k7 g' w' a' fr k5 (h2.mono k4) k6 k1 (qh.mono k4)
   rw [k2] at this
   exact wpIn_mono this fun e a w hp => hp.back k3 k4
 | exit id => exact ⟨k1, g', ae, dv, ms, k2, k3, k4, k5, k6, k7⟩
 | ret => exact ⟨k1, g', ae, dv, ms, k2, k3, k4, k5, k6, k7⟩
 | panic ch => exact ⟨k1, g', ae, dv, ms, k2, k3, k4, k5, k6, k7⟩
 | goto l => exact k7.elim
 | outgrown => exact k7.elim
theorem vH {a : Act} {ds : List Deferred} {e : Exit} (h : aZ g U w) (hr : fj g ρ a.tmps) (hn : a.tmps.size = nt) (hd : a.defers = ds) (hq : CB g Q ρ U e) : n0 g nt nm ds Q e a w :=
 ⟨hn, g, U, ρ, [], by simpa using hd, jv _ _ _, Gh.Le.refl g, h, hr, hq⟩
theorem bp.skip (h : Q .normal ρ U) : bp C nt ro .skip Q ρ U := fun g w a fr h1 h2 h3 h4 _ => wpIn_skip (vH h1 h3 h4 rfl h)
theorem bp.exit {id : Nat} (h : Q (.exit id) ρ U) : bp C nt ro (.exit id) Q ρ U := fun g w a fr h1 h2 h3 h4 _ => wpIn_exit (vH h1 h3 h4 rfl h)
theorem bp.ret (h : Q .ret ρ U) : bp C nt ro .ret Q ρ U := fun g w a fr h1 h2 h3 h4 _ => wpIn_ret (vH h1 h3 h4 rfl h)
theorem bp.cond {c : Operand} {x y : Code} {b : Bool} (hc : ρ.ev C c = .bool b) (h1 : b = true -> bp C nt ro x Q ρ U) (h2 : b = false -> bp C nt ro y Q ρ U) : bp C nt ro (.cond c x y) Q ρ U := by
 intro g w a fr k1 k2 k3 k4 k5
 have := p9 k2 k3 c
 rw [hc] at this
 simp only [aw] at this
 exact wpIn_cond_split this (fun e => h1 e g w a fr k1 k2 k3 k4 k5) (fun e => h2 e g w a fr k1 k2 k3 k4 k5)
theorem bp.XK {c : Operand} {x y : Code} (hc : ρ.ev C c = .bool true) (h1 : bp C nt ro x Q ρ U) : bp C nt ro (.cond c x y) Q ρ U := bp.cond hc (fun _ => h1) (fun h => by cases h)
theorem bp.XJ {c : Operand} {x y : Code} (hc : ρ.ev C c = .bool false) (h1 : bp C nt ro y Q ρ U) : bp C nt ro (.cond c x y) Q ρ U := bp.cond hc (fun h => by cases h) (fun _ => h1)
def uT (id : Nat) (Q : Ex -> Env -> St -> Prop) : Ex -> Env -> St -> Prop
 | .exit xh, ρ, U => if xh = id then Q .normal ρ U else Q (.exit xh) ρ U
 | e, ρ, U => Q e ρ U
theorem bp.block {id : Nat} {c : Code} (h : bp C nt ro c (uT id Q) ρ U) : bp C nt ro (.block id c) Q ρ U := by
 intro g w a fr h1 h2 h3 h4 qh
 refine wpIn_block (wpIn_mono (h g w a fr h1 h2 h3 h4 qh) ?_)
 rintro e a' w' ⟨k1, g', ae, dv, ms, k2, k3, k4, k5, k6, k7⟩
 cases e with
 | normal => exact ⟨k1, g', ae, dv, ms, k2, k3, k4, k5, k6, k7⟩
 | exit xh =>
   have k7 : uT id Q (.exit xh) dv ae := k7
   simp only [uT] at k7
   simp only [Exit.inBlock]
   split
   · rename_i e; rw [if_pos e] at k7; exact ⟨k1, g', ae, dv, ms, k2, k3, k4, k5, k6, k7⟩
   · rename_i e; rw [if_neg e] at k7; exact ⟨k1, g', ae, dv, ms, k2, k3, k4, k5, k6, k7⟩
 | ret => exact ⟨k1, g', ae, dv, ms, k2, k3, k4, k5, k6, k7⟩
 | panic ch => exact ⟨k1, g', ae, dv, ms, k2, k3, k4, k5, k6, k7⟩
 | goto l => exact k7.elim
 | outgrown => exact k7.elim
theorem bp.loop {c : Code} (I : Nat -> Env -> St -> Prop) {n : Nat} (h0 : I n ρ U) (round : ∀ n ρ U, I n ρ U -> bp C nt ro c (VS (fun dv ae => ∃ m, m < n /\ I m dv ae) Q) ρ U) : bp C nt ro (.loop c) Q ρ U := by
 intro g w a fr h1 h2 h3 h4 qh
 let J : Nat -> Act -> World -> Prop := fun n a' w' => a'.tmps.size = nt /\ ∃ g' ae dv ms, a'.defers = ms.map BY ++ a.defers /\ lQ ro.nm g g' ms /\ Gh.Le g g' /\ aZ g' ae w' /\ fj g' dv a'.tmps /\ I n dv ae
 have ex : ∀ a' w', (∃ n, J n a' w') -> ∃ n, J n a' w' /\ ∀ m, m < n -> ¬ J m a' w' := fun a' w' ⟨n, hn⟩ => by
  induction n using Nat.strongRecOn with
  | _ n ih =>
    by_cases hm : ∃ m, m < n /\ J m a' w'
    · obtain ⟨m, Fy, PL⟩ := hm; exact ih m Fy PL
    · exact ⟨n, hn, fun m Fy PL => hm ⟨m, Fy, PL⟩⟩
 classical
 let μ : Act -> World -> Nat := fun a' w' => if h : ∃ n, J n a' w' then (ex a' w' h).choose else 0
 have ZA : ∀ a' w', (∃ n, J n a' w') -> J (μ a' w') a' w' /\ ∀ m, m < μ a' w' -> ¬ J m a' w' := fun a' w' h => by
  have := (ex a' w' h).choose_spec
  simp only [μ, dif_pos h]; exact this
 refine wpIn_loop (fun a' w' => ∃ n, J n a' w') μ ⟨n, h4, g, U, ρ, [], by simp, jv _ _ _, Gh.Le.refl g, h1, h3, h0⟩ ?_
 intro a' w' hJ
 obtain ⟨⟨k1, g', ae, dv, ms, k2, k3, k4, k5, k6, k7⟩, _⟩ := ZA a' w' hJ
 refine wpIn_mono (round _ dv ae k7 g' w' a' fr k5 (h2.mono k4) k6 k1 (qh.mono k4)) ?_
 intro e a2 w2 hp
 rw [k2] at hp
 have hp := hp.back k3 k4
 obtain ⟨q1, g2, bR, pa, Dw, q2, q3, q4, q5, q6, q7⟩ := hp
 cases e with
 | normal =>
   obtain ⟨m, hm, hI⟩ := q7
   have Uo : J m a2 w2 := ⟨q1, g2, bR, pa, Dw, q2, q3, q4, q5, q6, hI⟩
   refine ⟨⟨m, Uo⟩, ?_⟩
   have := (ZA a2 w2 ⟨m, Uo⟩).2
   rcases eG (μ a2 w2) (μ a' w') with h | h
   · exact h
   · exact absurd Uo (this m (by omega))
 | exit id => exact ⟨q1, g2, bR, pa, Dw, q2, q3, q4, q5, q6, q7⟩
 | ret => exact ⟨q1, g2, bR, pa, Dw, q2, q3, q4, q5, q6, q7⟩
 | panic ch => exact ⟨q1, g2, bR, pa, Dw, q2, q3, q4, q5, q6, q7⟩
 | goto l => exact q7.elim
 | outgrown => exact q7.elim
end
end Go.Rip
namespace Go.Rip
open Go.RowKit
section
variable {C : cr} {g : Gh} {U : St} {w : World} {nt : Nat} {nm : Bool} {ro : Ro} {fr : Option Nat} {Q : Ex -> Env -> St -> Prop} {ρ : Env}
def xY (nt : Nat) (o : Oper) : Bool :=
 (match o.dst with | some d => decide (d < nt) | none => true) && (match o.op with | .defer _ => false | _ => true)
def km (nt : Nat) (ops : Array Oper) : Bool := ops.toList.all (xY nt)
theorem wW {ops : Array Oper} {a : Act} (hr : fj g ρ a.tmps) {o : Oper} {b : Bool} (h : fS ops ρ o.guard = .bool b) : Region.wanted o (yielded ops a.tmps) = b := by
 unfold fS at h
 unfold Region.wanted
 cases hg : o.guard with
 | none => simp [hg] at h; simp [h]
 | some jw =>
   obtain ⟨j, want⟩ := jw
   simp only [hg] at h ⊢
   split at h
   · rename_i d hd
     split at h
     · rename_i b' hb
       simp only [AV.bool.injEq] at h
       subst h
       have := hr d
       rw [hb] at this
       simp only [aw] at this
       have pd : a.tmps[d]? = some (.bool b') := by
        rw [Array.getD_eq_getD_getElem?] at this
        cases ht : a.tmps[d]? with
        | none => rw [ht] at this; simp [undef] at this
        | some v => rw [ht] at this; simp at this; rw [this]
       unfold yielded
       rw [hd]
       simp only [Option.bind_some, pd]
       cases b' <;> cases want <;> rfl
     · rename_i hb
       simp only [AV.bool.injEq] at h
       subst h
       have := hr d
       rw [hb] at this
       simp only [aw, aD] at this
       obtain ⟨vs, this, rfl⟩ := this
       have pd : ∀ b, a.tmps[d]? ≠ some (.bool b) := fun b dA => by
        rw [Array.getD_eq_getD_getElem?, dA] at this
        simp at this
       unfold yielded
       rw [hd]
       simp only [Option.bind_some]
       first
        | rfl
        | (split
           · rename_i b' dA; exact absurd dA (pd _)
           · rfl)
     · cases h
   · cases h
theorem lC (a : Act) (dst : Option Tmp) (v : Value) : (a.put dst v).defers = a.defers /\ (a.put dst v).tmps.size = a.tmps.size := by
 cases dst <;> simp [Act.put]
theorem fj.dT {a : Act} (hr : fj g ρ a.tmps) {dst : Option Tmp} {x : AV} {v : Value} (hd : ∀ d, dst = some d -> d < a.tmps.size) (hx : aw g x v) : fj g (ρ.dT dst x) (a.put dst v).tmps := by
 cases dst with
 | none => exact hr
 | some d => exact hr.put (hd d rfl) hx
theorem rv : aw g (.aO []) undef := by simp only [aw]; exact ⟨[], rfl, by simp [aD]⟩
def KQ (Q : Ex -> Env -> St -> Prop) : Env -> St -> Prop := fun ρ U => Q .normal ρ U
def uM (Q : Ex -> Env -> St -> Prop) : AV -> St -> Prop := fun x U => ∀ ρ, Q (.panic x) ρ U
theorem nf {o : Oper} (cA : xY nt o = true) {mu : Bool} {K : AV -> St -> Prop} {Kp : AV -> St -> Prop} {ds : List Deferred} {next : Act -> World -> Prop} {a : Act}
 (hs : aZ g U w) (hG : fJ C g) (hr : fj g ρ a.tmps) (hn : a.tmps.size = nt)
 (h : (gH C mu o.op ρ U).wp C U K Kp)
 (lR : ∀ g' ae w' x v, Gh.Le g g' -> aZ g' ae w' -> aw g' x v -> K x ae -> next (a.put o.dst v) w')
 {QQ : Exit -> Act -> World -> Prop} (C1 : ∀ g' ae w' x v, Gh.Le g g' -> aZ g' ae w' -> aw g' x v -> Kp x ae -> QQ (.panic [{ v, recovered := false }]) a w') :
 o.wpIn (FW fr) 0 C.P a w next QQ := by
 refine ⟨fun _ _ => trivial, ?_⟩
 have NA : ∀ c, o.op ≠ .defer c := fun c e => by simp [xY, e] at cA
 rw [Oper.semAt_eq _ _ _ NA]
 have fits := NX (C := C) hs hG hr mu o
 generalize hres : (execOp a.eval o).run C.P w = res at fits ⊢
 generalize gH C mu o.op ρ U = r at fits h
 have val : ∀ {x ae}, (∃ u w' g', (res = .ok (.value u) w' \/ (res = .ok .skip w' /\ u = undef)) /\ Gh.Le g g' /\ aZ g' ae w' /\ aw g' x u) -> K x ae -> o.uponIn (FW fr) 0 C.P a next QQ res := by
  rintro x ae ⟨u, w', g', hu, hle, dL, hx⟩ hk
  rcases hu with rfl | ⟨rfl, rfl⟩
  · exact lR g' ae w' x u hle dL hx hk
  · exact lR g' ae w' x undef hle dL hx hk
 induction r with
 | val v => exact val fits h
 | jD v b x => exact val fits h
 | new k del x => obtain ⟨u, w', g', b, rfl, hb, hle, dL, hx⟩ := fits; exact lR g' _ w' _ u hle dL hx (h b hb)
 | ji b l => obtain ⟨u, w', g', v, x, rfl, hm, hle, dL, hx⟩ := fits; exact lR g' _ w' _ u hle dL hx (h (v, x) hm)
 | enter f args =>
   obtain ⟨vs, w', rfl, dL, ha⟩ := fits
   refine ⟨fun hd => by simp [FW, Fence.wide] at hd, ?_⟩
   have hc : CallsIn (FW fr) 0 C.P f (List.toArray vs) w' (lV g (ar K Kp)) := h g w' vs dL hG ha
   refine hc.mono ?_
   rintro e w2 hp
   cases e with
   | returned v => obtain ⟨g', ae, x, h1, h2, h3, h4⟩ := hp; exact lR g' ae w2 x v h1 h2 h3 h4
   | panicked ch => obtain ⟨g', ae, x, v, rfl, h1, h2, h3, h4⟩ := hp; exact C1 g' ae w2 x v h1 h2 h3 h4
   | outgrown => exact hp.elim
 | yield l args =>
   obtain ⟨vs, x, w0, w', hx, rfl, rfl, dL, ha⟩ := fits
   obtain ⟨fn, tmps, assign, body, hy, hR⟩ := h g w' vs x dL hG ha hx
   rw [hy]
   refine ⟨fun hd => by simp [FW, Fence.wide] at hd, ?_⟩
   have hc : RoundIn (FW fr) 0 C.P x.aG fn tmps assign body w' (lV g (ar K Kp)) := hR
   refine hc.mono ?_
   rintro e w2 hp
   cases e with
   | returned v => obtain ⟨g', ae, x, h1, h2, h3, h4⟩ := hp; exact lR g' ae w2 x v h1 h2 h3 h4
   | panicked ch => obtain ⟨g', ae, x, v, rfl, h1, h2, h3, h4⟩ := hp; exact C1 g' ae w2 x v h1 h2 h3 h4
   | outgrown => exact hp.elim
 | panic v => obtain ⟨u, w', rfl, dL, hx⟩ := fits; exact C1 g _ w' v u (Gh.Le.refl g) dL hx h
 | cond p r ih => exact ih (fits h.1) h.2
 | bad => exact h.elim
theorem tM {mu : List Nat} {ops : Array Oper} (cA : km nt ops = true) (g0 : Gh) : ∀ (l : List Nat) (g : Gh) (U : St) (w : World) (ρ : Env) (a : Act) (ds : List Deferred), Gh.Le g0 g -> aZ g U w -> fJ C g -> fj g ρ a.tmps -> a.tmps.size = nt -> a.defers = ds ->
 mr C mu ops (l.filterMap (ops[·]?)) ρ U (KQ Q) (uM Q) -> wpOpsIn (FW fr) 0 C.P ops (n0 g0 nt nm ds Q) l a w
 | [], g, U, w, ρ, a, ds, h0, hs, hG, hr, hn, hd, h => by
   simp only [wpOpsIn]
   exact ⟨hn, g, U, ρ, [], by simpa using hd, jv _ _ _, h0, hs, hr, h⟩
 | i :: rest, g, U, w, ρ, a, ds, h0, hs, hG, hr, hn, hd, h => by
   simp only [wpOpsIn]
   cases ho : ops[i]? with
   | none =>
     simp only [List.filterMap_cons, ho] at h
     exact tM cA g0 rest g U w ρ a ds h0 hs hG hr hn hd h
   | some o =>
     dsimp only
     simp only [List.filterMap_cons, ho, mr] at h
     have ke : o ∈ ops.toList := by
      have := fB (l := ops.toList) (i := i) (a := o) (by rw [iH]; exact ho)
      exact this
     have C0 : xY nt o = true := by
      unfold km at cA
      rw [dP] at cA
      exact cA o ke
     have NB : ∀ d, o.dst = some d -> d < a.tmps.size := fun d pv => by
      simp only [xY, pv, bP, cL] at C0
      rw [hn]; exact C0.1
     have go : ∀ g' ae w' x v, Gh.Le g g' -> aZ g' ae w' -> aw g' x v -> mr C mu ops (rest.filterMap (ops[·]?)) (ρ.dT o.dst x) ae (KQ Q) (uM Q) -> wpOpsIn (FW fr) 0 C.P ops (n0 g0 nt nm ds Q) rest (a.put o.dst v) w' := fun g' ae w' x v hle dL hx hk =>
      tM cA g0 rest g' ae w' (ρ.dT o.dst x) (a.put o.dst v) ds (h0.trans hle) dL (hG.mono hle) ((hr.mono hle).dT NB hx) (by rw [(lC a o.dst v).2]; exact hn) (by rw [(lC a o.dst v).1]; exact hd) hk
     cases Iy : fS ops ρ o.guard <;> rw [Iy] at h <;> simp only [al] at h
     rename_i b
     have hw := wW hr Iy
     cases b
     · rw [if_neg (by rw [hw]; simp)]
       exact ⟨fun _ _ => trivial, go g U w (.aO []) undef (Gh.Le.refl g) hs rv (h.2 rfl)⟩
     · rw [if_pos hw]
       refine nf C0 hs hG hr hn (h.1 rfl) go ?_ (ds := ds)
       intro g' ae w' x v hle dL hx hk
       exact ⟨hn, g', ae, ρ, [], by simpa using hd, jv _ _ _, h0.trans hle, dL, hr.mono hle, x, v, rfl, hx, hk ρ⟩
theorem zm (ops : Array Oper) : (List.range ops.size).filterMap (ops[·]?) = ops.toList := by
 apply List.ext_getElem?
 intro i
 have : ∀ n, n <= ops.size -> (List.range n).filterMap (ops[·]?) = ops.toList.take n := fun n => by
  induction n with
  | zero => intro _; simp
  | succ n ih =>
    intro hn
    rw [List.range_succ, List.filterMap_append, ih (by omega), pk]
    have : ops[n]? = some ops[n] := by simp
    simp [this]
 rw [this ops.size (de _), qC (by simp)]
theorem bp.region {id : Nat} {ops : Array Oper} (mu : List Nat) (cA : km nt ops = true) (h : mr C mu ops ops.toList ρ U (KQ Q) (uM Q)) : bp C nt ro (.region id ops false) Q ρ U := by
 intro g w a fr h1 h2 h3 h4 qh
 exact wpIn_region (tM cA g (List.range ops.size) g U w ρ a a.defers (Gh.Le.refl g) h1 h2 h3 h4 rfl (by rw [zm]; exact h))
end
end Go.Rip
namespace Go.Rip
open Go.RowKit
def ln (x : AV) (U : St) (x' : AV) (ae : St) : Prop := ∀ g w v, aZ g U w -> aw g x v -> ∃ g', Gh.Le g g' /\ aZ g' ae w /\ aw g' x' v
theorem ln.refl (x : AV) (U : St) : ln x U x U := fun g w v h hr => ⟨g, Gh.Le.refl g, h, hr⟩
theorem ln.trans {x y z : AV} {a b c : St} (h : ln x a y b) (k : ln y b z c) : ln x a z c := fun g w v hs hr =>
 let ⟨g1, l1, s1, r1⟩ := h g w v hs hr
 let ⟨g2, l2, s2, r2⟩ := k g1 w v s1 r1
 ⟨g2, l1.trans l2, s2, r2⟩
theorem ln.weaken (x : AV) {U ae : St} (h : St.Le ae U) : ln x U x ae := fun g w v hs hr => ⟨g, Gh.Le.refl g, hs.weaken h, hr⟩
theorem ln.freeze {b : Nat} {U : St} {l : List AV} (hb : U.box b = some l) : ln (.box b 0) U (.cj l) (U.del b) := fun g w v hs hr => by
 simp only [aw] at hr
 obtain ⟨x, hx, rfl⟩ := hr
 obtain ⟨g', vs, hle, _, hi, hl, dL⟩ := hs.freeze hb hx
 exact ⟨g', hle, dL, by simp only [aw]; exact ⟨x.aG, 0, vs, rfl, hi, hl.mono hle⟩⟩
def wv (P : Program) (t : TypeId) (p : AV) (U : St) (k : AV -> Prop) : Prop :=
 match rh P t p U with
 | .val v => k v
 | @av.cond q _ (.val v) => q /\ k v
 | _ => False
def rY (P : Program) (ρ : Env) (U : St) : List ResultVar -> (List AV -> Prop) -> Prop
 | [], k => k []
 | .tmp t :: rs, k => rY P ρ U rs fun vs => k (ρ.get t :: vs)
 | .cell t ty :: rs, k => wv P ty (ρ.get t) U fun v => rY P ρ U rs fun vs => k (v :: vs)
def sa : List AV -> AV
 | [x] => x
 | l => .aO l
def aaS (P : Program) (fn : Func) (R : cB -> St -> Prop) : Ex -> Env -> St -> Prop
 | .normal, ρ, U | .ret, ρ, U => rY P ρ U fn.results.toList fun vs => ∃ x ae, ln (sa vs) U x ae /\ R (.ret x) ae
 | .panic x, _, U => R (.panic x) U
 | .exit _, _, _ => False
def Env.gG (args : List AV) : Env := ⟨fun t => args.getD t (.aO [])⟩
section
variable {C : cr} {g : Gh} {U : St} {w : World} {nt : Nat} {ro : Ro} {Q : Ex -> Env -> St -> Prop} {ρ : Env}
theorem Jl (h : aZ g U w) {t : TypeId} {p : AV} {v : Value} (hp : aw g p v) {k : AV -> Prop} (hk : wv C.P t p U k) : ∃ u x, (do loadVar t (<- asAddr v) : Sem Value).run C.P w = .ok u w /\ aw g x u /\ k x := by
 unfold wv rh at hk
 cases hv : kY C.P t with
 | none => simp [hv] at hk
 | some bs =>
   obtain ⟨b, sz⟩ := bs
   cases hl : jK U p with
   | none => rw [hv, hl] at hk; cases b <;> simp at hk
   | some l =>
     rw [hv, hl] at hk
     obtain ⟨i, d, hi, hd, hb, dE⟩ := lN hv
     obtain ⟨a, vs, rfl, ha, hr, hc⟩ := oO h hp hl
     cases b
     · cases l with
       | nil => simp [fT] at hk
       | cons x xs =>
         simp only [fT] at hk
         simp only [aD] at hr
         obtain ⟨u, us, rfl, h1, h2⟩ := hr
         have := (hc 0 u rfl).1
         have h0 : a.add 0 = a := by simp [Addr.add]
         rw [h0] at this
         refine ⟨u, x, ?_, h1, hk⟩
         simp only [asAddr, loadVar, bI, ca, bY, jl hd, hb, bm, if_false, run_load, this, ef]
     · obtain ⟨hle, hk⟩ := hk
       have hlen := hr.length
       have fy : (loadCells a (vs.take sz).length).run C.P w = .ok (vs.take sz).toArray w :=
        run_loadCells_list (P := C.P) w a (vs.take sz) fun j u hu => by
         rw [List.getElem?_take] at hu
         split at hu
         · exact (hc j u hu).1
         · cases hu
       have qj : (vs.take sz).length = sz := by simp; omega
       rw [qj] at fy
       have Ii : ∀ u ∈ vs.take sz, u.oneCell' = true := fun u hu => by
        obtain ⟨j, hj⟩ := List.getElem?_of_mem hu
        rw [List.getElem?_take] at hj
        split at hj
        · exact (hc j u hj).2
        · cases hj
       refine ⟨.agg (vs.take sz).toArray, _, ?_, ?_, hk⟩
       · simp only [asAddr, loadVar, bI, ca, bY, jl hd, hb, if_true, dJ hi, dE, fy, ef]
       · simp only [aw]; exact ⟨_, rfl, Ii, hr.take sz⟩
theorem ya (h : aZ g U w) {a : Act} (hr : fj g ρ a.tmps) : ∀ (rs : List ResultVar) (k : List AV -> Prop), rY C.P ρ U rs k ->
 ∃ us xs, (rs.mapM (fun
  | .tmp t => pure (a.tmps.getD t undef)
  | .cell p t => do loadVar t (<- asAddr (a.tmps.getD p undef)) : ResultVar -> Sem Value)).run C.P w = .ok us w /\ aD g xs us /\ k xs
 | [], k, hk => ⟨[], [], by simp, by simp [aD], hk⟩
 | .tmp t :: rs, k, hk => by
   obtain ⟨us, xs, h1, h2, h3⟩ := ya h hr rs _ hk
   exact ⟨a.tmps.getD t undef :: us, ρ.get t :: xs, by simp only [List.mapM_cons, bI, ca, bY, h1], by simp only [aD]; exact ⟨_, _, rfl, hr t, h2⟩, h3⟩
 | .cell p t :: rs, k, hk => by
   obtain ⟨u, x, h4, h5, h6⟩ := Jl h (hr p) hk
   obtain ⟨us, xs, h1, h2, h3⟩ := ya h hr rs _ h6
   simp only [bI] at h4
   exact ⟨u :: us, x :: xs, by simp only [List.mapM_cons, bI, ca, h4, bY, h1], by simp only [aD]; exact ⟨_, _, rfl, h5, h2⟩, h3⟩
theorem xx (h : aZ g U w) {a : Act} (hr : fj g ρ a.tmps) {fn : Func} {k : List AV -> Prop} (hk : rY C.P ρ U fn.results.toList k) :
 ∃ u xs, (results fn a.tmps).run C.P w = .ok u w /\ aw g (sa xs) u /\ k xs := by
 obtain ⟨us, xs, h1, h2, h3⟩ := ya h hr _ k hk
 have e : (results fn a.tmps).run C.P w = .ok (if h : us.toArray.size = 1 then us.toArray[0] else .tuple us.toArray) w := by
  unfold results
  rw [Array.mapM_eq_mapM_toList]
  simp only [bI, Sem.run_map, ca]
  erw [h1]
  rfl
 refine ⟨_, xs, e, ?_, h3⟩
 match xs, us, h2 with
 | [], us, h2 =>
   simp only [aD] at h2; subst h2
   simp [sa, aw, aD]
 | [x], us, h2 =>
   simp only [aD] at h2
   obtain ⟨u, _, rfl, h4, rfl⟩ := h2
   simpa [sa] using h4
 | x :: y :: zs, us, h2 =>
   have hl := h2.length
   rw [dif_neg (by simp at hl ⊢; omega)]
   simp only [sa, aw]
   exact ⟨us, rfl, h2⟩
theorem xG (args : List AV) (vs : List Value) (n : Nat) (ha : aD g args vs) : fj g (Env.gG args) (vs.toArray ++ Array.replicate n undef) := fun t => by
 simp only [Env.gG, Array.getD_eq_getD_getElem?, rW, Array.getElem?_append, List.size_toArray, List.getElem?_toArray]
 have hl := ha.length
 by_cases ht : t < vs.length
 · rw [if_pos ht]
   obtain ⟨x, hx⟩ : ∃ x, args[t]? = some x := ⟨args[t]'(by omega), by simp⟩
   obtain ⟨v, hv, hr⟩ := ha.get hx
   rw [hx, hv]; exact hr
 · rw [if_neg ht, oD (by omega)]
   simp only [Option.getD_none]
   have : ((Array.replicate n undef)[t - vs.length]?).getD undef = undef := by
    rw [Array.getElem?_replicate]; split <;> rfl
   rw [this]; exact rv
theorem nW {fn : Func} {a : Act} {R : cB -> St -> Prop} (g0 : Gh) : ∀ (ms : List Nat) (g : Gh) (w : World) (u : FrameMode), ms.Nodup -> (∀ r ∈ ms, g.res r = true /\ g0.res r = false) -> Gh.Le g0 g -> aZ g U w -> fj g ρ a.tmps ->
 ((u = .returning /\ rY C.P ρ U fn.results.toList fun vs => ∃ x ae, ln (sa vs) U x ae /\ R (.ret x) ae) \/ (∃ x v, u = .panicking [{ v, recovered := false }] /\ aw g x v /\ R (.panic x) U)) ->
 LeavesInM Fence.wide 0 C.P fn a.tmps (lV g0 R) (ms.map BY) u w
 | [], g, w, u, _, _, hle, hs, hr, h => by
   simp only [gJ, LeavesInM]
   rcases h with ⟨rfl, h⟩ | ⟨x, v, rfl, hx, h⟩
   · obtain ⟨v, xs, fy, hv, x, ae, ht, hR⟩ := xx hs hr h
     obtain ⟨g', GM, dL, hx⟩ := ht g w v hs hv
     exact ⟨v, fy, g', ae, x, hle.trans GM, dL, hx, hR⟩
   · exact ⟨g, U, x, v, rfl, hle, hs, hx, h⟩
 | r :: ms, g, w, u, hnd, vj, hle, hs, hr, h => by
   simp only [dx, LeavesInM]
   refine ⟨by rcases h with ⟨rfl, _⟩ | ⟨_, _, rfl, _⟩ <;> simp, .inl ⟨r, { w with heap := w.heap.setIfInBounds r (Obj.deferred none) }, rfl, ?_, ?_⟩⟩
   · obtain ⟨_, hh⟩ := hs.res r (vj r (by simp)).1
     simp [Instr.takeDeferred, getObj, setObj, bI, Sem.run, hh, Result.andThen]
   · have Zc : Gh.pY g { g with res := fun x => if x = r then false else g.res x } := ⟨fun _ _ h => h, fun _ _ _ h => h, fun _ _ h => h⟩
     refine nW g0 ms { g with res := fun x => if x = r then false else g.res x } _ u (List.nodup_cons.1 hnd).2 (fun q hq => ?_) ?_ (hs.shut (vj r (by simp)).1) (fun t => (hr t).dN Zc) ?_
     · refine ⟨?_, (vj q (by simp [hq])).2⟩
       show (if q = r then false else g.res q) = true
       rw [if_neg (fun e : q = r => by subst e; exact (List.nodup_cons.1 hnd).1 hq)]
       exact (vj q (by simp [hq])).1
     · refine ⟨hle.base, hle.w0, hle.place, hle.bO, hle.bE, fun q hq => ?_, hle.vr, hle.sH⟩
       show (if q = r then false else g.res q) = true
       have cm : q ≠ r := fun e => by subst e; rw [(vj q (by simp)).2] at hq; cases hq
       rw [if_neg cm]
       exact hle.res q hq
     · rcases h with h | ⟨x, v, h1, h2, h3⟩
       · exact .inl h
       · exact .inr ⟨x, v, h1, h2.dN Zc, h3⟩
theorem af.FT {f : FuncId} {fn : Func} {c : Code} {args : List AV} {R : cB -> St -> Prop} (hf : C.P.funcs[f]? = some fn) (hb : fn.body = some c) (hlen : args.length <= fn.ntmps)
 (h : bp C fn.ntmps .fn c (aaS C.P fn R) (Env.gG args) U) : af C f args U R := by
 intro g w vs hs hG ha
 have hl := ha.length
 refine callsIn_of_wp_marks hf hb trivial ?_
 have Ac := xG args vs (fn.ntmps - args.length) ha
 have := h g w { tmps := vs.toArray ++ Array.replicate (fn.ntmps - vs.toArray.size) undef, defers := [] } none hs hG (by
  have e : vs.toArray.size = args.length := by simpa using hl
  rw [e]; exact Ac) (by simp; omega) trivial
 refine wpIn_mono this ?_
 rintro e a w' ⟨k1, g', ae, dv, ms, k2, k3, k4, k5, k6, k7⟩
 simp only [ja] at k2
 cases e with
 | normal =>
   show LeavesInM _ _ _ _ _ _ a.defers _ _
   rw [k2]
   exact nW g ms g' w' _ k3.nodup k3.res k4 k5 k6 (.inl ⟨rfl, k7⟩)
 | ret =>
   show LeavesInM _ _ _ _ _ _ a.defers _ _
   rw [k2]
   exact nW g ms g' w' _ k3.nodup k3.res k4 k5 k6 (.inl ⟨rfl, k7⟩)
 | panic ch =>
   obtain ⟨x, v, rfl, hx, hR⟩ := k7
   show LeavesInM _ _ _ _ _ _ a.defers _ _
   rw [k2]
   exact nW g ms g' w' _ k3.nodup k3.res k4 k5 k6 (.inr ⟨x, v, rfl, hx, hR⟩)
 | exit id => exact k7.elim
 | goto l => exact k7.elim
 | outgrown => exact k7.elim
def Pure (C : cr) (f : FuncId) (args : List AV) (x : AV) : Prop := ∀ U R, R (.ret x) U -> af C f args U R
end
end Go.Rip
namespace Go.Rip
open Go.RowKit
section
variable {C : cr} {g : Gh} {U : St} {w : World} {nt : Nat} {ro : Ro} {Q : Ex -> Env -> St -> Prop} {ρ : Env}
def VN (o : Nat) (Q : Ex -> Env -> St -> Prop) (ρ : Env) : cB -> St -> Prop
 | .ret _, ae => ∃ L, ae.loop o = some L /\ L.state ≠ .busy /\ (match L.eN with
   | none => Q .normal ρ (ae.del o)
   | some .ret => Q .ret ρ (ae.del o)
   | some (.exit id) => Q (.exit id) ρ (ae.del o)
   | _ => False)
 | .panic x, ae => Q (.panic x) ρ ae
theorem aZ.Na (h : aZ g U w) {o : Nat} {L : eZ} {p : Place} (ho : U.loop o = some L) (hp : g.place o = some p) (x : Loop) :
 aZ g (U.del o) { w with heap := w.heap.setIfInBounds p.aG (.loop x) } := by
 obtain ⟨p', k1, k2, fn, tmps, defers, k3, _⟩ := h.live o _ (St.kh.1 ho)
 rw [hp] at k1; cases k1
 refine (h.weaken (St.p7 U o)).change p.aG k2 (Gh.Le.refl g) rfl rfl ⟨rfl, rfl, rfl, by simp⟩ (fun k hk _ => Array.getElem?_setIfInBounds_ne (Ne.symm hk)) (fun _ _ _ => rfl) (fun _ _ => rfl) (fun q u hu => ?_) (fun es c hr => ?_) (fun b' x' p' h1 h2 e => ?_) (h.qH (St.kh.1 ho) hp)
 · have := (h.bO _ _ _ hu).1; simp [World.cell?, k3] at this
 · have := (h.bE _ _ _ hr).1; rw [k3] at this; cases this
 · simp only [St.del] at h1
   split at h1
   · cases h1
   · rename_i ne; exact ne (h.apart _ _ _ _ _ _ h1 (St.kh.1 ho) h2 hp e)
theorem aZ.oF (h : aZ g U w) {o : Nat} {L L' : eZ} {p : Place} (ho : U.loop o = some L) (hp : g.place o = some p) {fn : FuncId} {tmps : Array Value} {defers : Nat}
 (hn : tmps.size = L'.nt) (hr : ∀ t, aw g (L'.ρ t) (tmps.getD t undef)) :
 aZ g (U.set o (.loop L')) { w with heap := w.heap.setIfInBounds p.aG (.loop { state := L'.state, pending := L'.eN, fn, tmps, params := L'.params, assign := L'.assign, body := L'.body, defers }) } := by
 obtain ⟨p', k1, k2, Pw, B4, wi, k3, _⟩ := h.live o _ (St.kh.1 ho)
 rw [hp] at k1; cases k1
 have aJ := (iE.1 k3).1
 refine h.rewrite (St.kh.1 ho) hp ⟨rfl, rfl, rfl, by simp⟩ (fun k hk _ => Array.getElem?_setIfInBounds_ne (Ne.symm hk)) (fun q => ?_) ?_ ⟨fn, tmps, defers, by simp [aJ], hn, hr⟩
 · cases e : g.bO p.aG q with
   | none => rfl
   | some u => have := (h.bO _ _ _ e).1; simp [World.cell?, k3] at this
 · cases e : g.bE p.aG with
   | none => rfl
   | some u => have := (h.bE _ _ _ e).1; rw [k3] at this; cases this
theorem bp.rangeFunc (tag : Nat) {f : Operand} {ps : Array Tmp} {assign body : Code} {gV : FuncId} {first cap : List AV} (hf : ρ.ev C f = .func (.func gV) first cap) (qg : dz C.P gV = true)
 (h : ∀ o, U.cN o -> af C gV (first ++ [.o9 o] ++ cap) (U.new o (.loop ⟨ρ.get, nt, ps, assign, body, .ready, none, tag⟩)) (VN o Q ρ)) : bp C nt .fn (.rangeFunc f ps assign body) Q ρ U := by
 intro g w a fr hs hG hr hn qh
 cases fr with
 | some l => exact qh.elim
 | none =>
 have UE := p9 hG hr f
 rw [hf] at UE
 simp only [aw] at UE
 obtain ⟨fs, cs, hval, Iu, qf⟩ := UE
 refine wpIn_rangeFunc fun fn _ => ?_
 obtain ⟨CT, sE⟩ := hs.RL
 have hrE := hr.mono CT
 obtain ⟨o, g2, f1, f2, f3, f4⟩ := sE.qv (.loop { state := .ready, pending := none, fn := fn, tmps := a.tmps, params := ps, assign, body, defers := w.heap.size }) 0 0 (.loop ⟨ρ.get, nt, ps, assign, body, .ready, none, tag⟩)
  fun g' hle _ _ => ⟨fn, a.tmps, w.heap.size, heap_alloc_new _ _, hn, fun t => (hrE t).mono hle⟩
 have qk := CT.trans f2
 obtain ⟨CD, hfn, IG, hng⟩ : ∃ CD, C.P.funcs[gV]? = some CD /\ CD.body.isNone = false /\ (CD.name == "runtime.NumGoroutine") = false := by
  unfold dz at qg
  split at qg
  · rename_i CD hfn
    simp only [bP, Bool.not_eq_true'] at qg
    exact ⟨CD, hfn, by cases hb : CD.body <;> simp_all, qg.2⟩
  · cases qg
 refine ⟨w.heap.size + 1, [{ target := .collected w.heap.size, args := #[] }], ((w.alloc (.deferred (some []))).alloc (.loop { state := .ready, pending := none, fn := fn, tmps := a.tmps, params := ps, assign, body, defers := w.heap.size })),
  { target := .fn (.func gV) cs.toArray, args := fs.toArray ++ #[.func (.yield (w.heap.size + 1)) #[] #[]] }, ((w.alloc (.deferred (some []))).alloc (.loop { state := .ready, pending := none, fn := fn, tmps := a.tmps, params := ps, assign, body, defers := w.heap.size })), gV, (fs.toArray ++ #[.func (.yield (w.heap.size + 1)) #[] #[]]) ++ cs.toArray, ((w.alloc (.deferred (some []))).alloc (.loop { state := .ready, pending := none, fn := fn, tmps := a.tmps, params := ps, assign, body, defers := w.heap.size })), ?_, ?_, fun _ _ => trivial, ?_, fun hd => by simp [FW, Fence.wide] at hd, ?_⟩
 · simp only [Instr.enterLoop, FW, bI, run_newObj, ca, bY]
   rw [Array.size_push]
   rfl
 · simp only [resolve, rangeCall, List.map_toArray, dx, gJ]
   rw [hval]
   simp only [Deferred.ofValue, ca]
   rfl
 · simp only [invoke, callFunc, bI, ca, bY, run_program, hfn, hng, IG, bm, if_false, ef]
 · have hc := h o f1 g2 _ (fs ++ [Value.func (.yield (w.heap.size + 1)) #[] #[]] ++ cs) f4 (hG.mono qk) (((Iu.mono qk).append (by
    simp only [aD]
    exact ⟨_, _, rfl, by simp only [aw]; exact ⟨_, f3, by simp⟩, rfl⟩)).append (qf.mono qk))
   have e : (fs ++ [Value.func (.yield (w.heap.size + 1)) #[] #[]] ++ cs).toArray = fs.toArray ++ #[Value.func (.yield (w.heap.size + 1)) #[] #[]] ++ cs.toArray := by simp
   rw [e] at hc
   have Ft : CallsIn (FW none) 0 C.P gV _ _ _ := hc
   refine Ft.mono ?_
   rintro e w3 hp
   have IE : ∀ g3, Gh.Le g2 g3 -> lQ false g g3 [w.heap.size] := fun g3 hl => ⟨fun h => (by cases h), by simp, fun r hr => by
    simp only [ng] at hr; subst hr
    exact ⟨hl.res _ (f2.res _ (by simp)), hs.Ar (de _)⟩⟩
   cases e with
   | returned v =>
     obtain ⟨g3, c8, x, h1, h2, h3, L, h4, h5, h6⟩ := hp
     obtain ⟨p, q1, q2, Pw, B4, wi, q3, q4, q5⟩ := h2.live o _ (St.kh.1 h4)
     have pw : g3.place o = some ⟨w.heap.size + 1, 0, 0⟩ := h1.place _ _ (by rw [f3]; simp)
     rw [pw] at q1; cases q1
     have vi : (getObj (w.heap.size + 1)).run C.P w3 = .ok (.loop { state := L.state, pending := L.eN, fn := Pw, tmps := B4, params := L.params, assign := L.assign, body := L.body, defers := wi }) w3 := by simp [getObj, Sem.run, q3]
     have IH : ∀ x, (setObj (w.heap.size + 1) x).run C.P w3 = .ok () { w3 with heap := w3.heap.setIfInBounds (w.heap.size + 1) x } := fun x => by simp [setObj, Sem.run, q3]
     have XS : (L.state == LoopState.busy) = false := by
      cases hL : L.state <;> first
       | rfl
       | exact absurd hL h5
     have tq : (Instr.endLoop (w.heap.size + 1)).run C.P w3 = .ok L.eN { w3 with heap := w3.heap.setIfInBounds (w.heap.size + 1) (.loop { state := .exhausted, pending := L.eN, fn := Pw, tmps := B4, params := L.params, assign := L.assign, body := L.body, defers := wi }) } := by
      simp only [Instr.endLoop, Instr.getLoop, bI, vi, bY, ca, XS, bm, if_false, ef, IH]
     have U9 := h2.Na h4 pw { state := .exhausted, pending := L.eN, fn := Pw, tmps := B4, params := L.params, assign := L.assign, body := L.body, defers := wi }
     have post : ∀ ex, CB g3 Q ρ (c8.del o) ex -> n0 g nt false a.defers Q ex { a with defers := [{ target := .collected w.heap.size, args := #[] }] ++ a.defers } _ := fun ex hq =>
      ⟨hn, g3, c8.del o, ρ, [w.heap.size], rfl, IE g3 h1, qk.trans h1, U9, hr.mono (qk.trans h1), hq⟩
     refine ⟨L.eN, _, tq, ?_⟩
     generalize L.eN = eN at h6 post ⊢
     cases eN with
     | none => exact post .normal h6
     | some c =>
       cases c <;> first
        | exact h6.elim
        | exact wpIn_exit (post (.exit _) h6)
        | exact wpIn_ret (post .ret h6)
   | panicked ch =>
     obtain ⟨g3, c8, x, v, rfl, h1, h2, h3, h4⟩ := hp
     exact ⟨hn, g3, c8, ρ, [w.heap.size], rfl, IE g3 h1, qk.trans h1, h2, hr.mono (qk.trans h1), x, v, rfl, h3, h4⟩
   | outgrown => exact hp.elim
def tT (ρ : Nat -> AV) : List Tmp -> List AV -> Nat -> AV
 | t :: ts, v :: vs => tT (fun x => if x = t then v else ρ x) ts vs
 | _, _ => ρ
theorem DG {ρ : Nat -> AV} {tmps : Array Value} : ∀ (ps : List Tmp) (args : List AV) (vs : List Value) (ρ : Nat -> AV) (tmps : Array Value), (∀ t, aw g (ρ t) (tmps.getD t undef)) -> (∀ t ∈ ps, t < tmps.size) -> aD g args vs ->
 ((ps.zip vs).foldl (fun (tmps : Array Value) (p : Tmp × Value) => tmps.setIfInBounds p.1 p.2) tmps).size = tmps.size /\ ∀ t, aw g (tT ρ ps args t) (((ps.zip vs).foldl (fun (tmps : Array Value) (p : Tmp × Value) => tmps.setIfInBounds p.1 p.2) tmps).getD t undef)
 | [], args, vs, ρ, tmps, h, _, _ => by simpa [tT] using h
 | t :: ts, [], vs, ρ, tmps, h, _, ha => by
   simp only [aD] at ha; subst ha
   simpa [tT] using h
 | t :: ts, x :: args, vs, ρ, tmps, h, hl, ha => by
   simp only [aD] at ha
   obtain ⟨v, vs, rfl, hx, ha⟩ := ha
   simp only [List.zip_cons_cons, List.foldl_cons, tT]
   have h1 : ∀ t', aw g ((fun y => if y = t then x else ρ y) t') ((tmps.setIfInBounds t v).getD t' undef) := (fj.put (g := g) (ρ := ⟨ρ⟩) h (hl t (by simp)) hx)
   obtain ⟨h2, h3⟩ := DG (ρ := ρ) (tmps := tmps) ts args vs _ (tmps.setIfInBounds t v) h1 (fun t' vo => by simpa using hl t' (by simp [vo])) ha
   exact ⟨by rw [h2]; simp, h3⟩
def VQ (o : Nat) (R : cB -> St -> Prop) : Ex -> Env -> St -> Prop
 | .normal, _, U => ∃ L, U.loop o = some L /\ R (.ret (.bool true)) (U.set o (.loop { L with state := .ready, eN := none }))
 | .ret, _, U => ∃ L, U.loop o = some L /\ R (.ret (.bool false)) (U.set o (.loop { L with state := .done, eN := some .ret }))
 | .exit id, _, U => ∃ L, U.loop o = some L /\ R (.ret (.bool false)) (U.set o (.loop { L with state := .done, eN := some (.exit id) }))
 | .panic _, _, _ => False
def Re (C : cr) (o : Nat) (body : Code) (nt : Nat) (R : cB -> St -> Prop) : Ex -> Env -> St -> Prop
 | .normal, ρ, U => ∃ L, U.loop o = some L /\ L.state = .ready /\ bp C nt (.round o) body (VQ o R) ρ (U.set o (.loop { L with state := .busy }))
 | _, _, _ => False
theorem jJ.DA {o : Nat} {args : List AV} {R : cB -> St -> Prop} {L : eZ} (hL : U.loop o = some L) (hargs : args.length = L.params.size) (PU : ∀ t ∈ L.params.toList, t < L.nt)
 (h : bp C L.nt (.round o) L.assign (Re C o L.body L.nt R) ⟨tT L.ρ L.params.toList args⟩ U) : jJ C o args U R := by
 intro g w vs x hs hG ha hx
 obtain ⟨p, k1, k2, fn, tmps, defers, k3, k4, k5⟩ := hs.live o _ (St.kh.1 hL)
 rw [hx] at k1; cases k1
 have vi : (getObj x.aG).run C.P w = .ok (.loop { state := L.state, pending := L.eN, fn, tmps, params := L.params, assign := L.assign, body := L.body, defers }) w := by simp [getObj, Sem.run, k3]
 have dE : vs.length = L.params.size := by rw [ha.length, hargs]
 obtain ⟨z1, z2⟩ := DG (g := g) (ρ := L.ρ) (tmps := tmps) L.params.toList args vs L.ρ tmps k5 (fun t ht => by rw [k4]; exact PU t ht) ha
 have XL : (L.params.zip vs.toArray).foldl (fun (tmps : Array Value) (p : Tmp × Value) => tmps.setIfInBounds p.1 p.2) tmps = (L.params.toList.zip vs).foldl (fun (tmps : Array Value) (p : Tmp × Value) => tmps.setIfInBounds p.1 p.2) tmps := by
  rw [<- Array.foldl_toList]; congr 1; simp
 refine ⟨fn, (L.params.toList.zip vs).foldl (fun (tmps : Array Value) (p : Tmp × Value) => tmps.setIfInBounds p.1 p.2) tmps, L.assign, L.body, ?_, ?_⟩
 · simp only [Instr.yield, Instr.getLoop, bI, vi, bY, ca, List.size_toArray, dE, ne_eq, not_true_eq_false, if_false, ef]
   rw [<- XL]
 · refine roundIn_of_wpIn trivial ?_
   have h1 := h g w { tmps := (L.params.toList.zip vs).foldl (fun (tmps : Array Value) (p : Tmp × Value) => tmps.setIfInBounds p.1 p.2) tmps, defers := [] } (some x.aG) hs hG z2 (by rw [<- k4]; exact z1) ⟨x, hx, rfl⟩
   have CK : L.assign.wpIn (Fence.wide.inRound x.aG) 0 C.P _ _ _ := h1
   refine wpIn_mono CK ?_
   rintro e a1 w1 ⟨q1, g1, bT, ρ1, ms, q2, q3, q4, q5, q6, q7⟩
   cases e with
   | normal =>
     obtain ⟨L1, r1, r2, r3⟩ := q7
     obtain ⟨p, k1, k2, fn, tmps, defers, k3, k4, k5⟩ := q5.live o _ (St.kh.1 r1)
     rw [q4.place _ _ hx] at k1; cases k1
     have vi : (getObj x.aG).run C.P w1 = .ok (.loop { state := L1.state, pending := L1.eN, fn, tmps, params := L1.params, assign := L1.assign, body := L1.body, defers }) w1 := by simp [getObj, Sem.run, k3]
     have IH : ∀ y, (setObj x.aG y).run C.P w1 = .ok () { w1 with heap := w1.heap.setIfInBounds x.aG y } := fun y => by simp [setObj, Sem.run, k3]
     have A7 := q5.oF (L' := { L1 with state := .busy }) (fn := fn) (defers := defers) r1 (q4.place _ _ hx) k4 k5
     refine ⟨_, by simp only [Instr.beginRound, Instr.getLoop, bI, vi, bY, ca, IH, r2]; rfl, ?_⟩
     have h2 := r3 g1 _ a1 (some x.aG) A7 (hG.mono q4) q6 q1 ⟨x, q4.place _ _ hx, rfl⟩
     have YM : L.body.wpIn (Fence.wide.inRound x.aG) 0 C.P _ _ _ := h2
     refine wpIn_mono YM ?_
     rintro e a2 w2 ⟨P9, g2, bR, pa, Dw, VI, q3', ZN, ZO, q6', F0⟩
     have Zy := (q4.trans ZN).place _ _ hx
     have fin : ∀ (L2 : eZ) (jump : Option Code) (st : LoopState), bR.loop o = some L2 -> (if jump.isNone then LoopState.ready else .done) = st -> R (.ret (.bool jump.isNone)) (bR.set o (.loop { L2 with state := st, eN := jump })) ->
      ∃ v w', (Instr.endRound x.aG jump).run C.P w2 = .ok v w' /\ lV g R (.returned v) w' := fun L2 jump st hl eY hR => by
      obtain ⟨p, k1, k2, fn, tmps, defers, k3, k4, k5⟩ := ZO.live o _ (St.kh.1 hl)
      rw [Zy] at k1; cases k1
      have vi : (getObj x.aG).run C.P w2 = .ok (.loop { state := L2.state, pending := L2.eN, fn, tmps, params := L2.params, assign := L2.assign, body := L2.body, defers }) w2 := by simp [getObj, Sem.run, k3]
      have IH : ∀ y, (setObj x.aG y).run C.P w2 = .ok () { w2 with heap := w2.heap.setIfInBounds x.aG y } := fun y => by simp [setObj, Sem.run, k3]
      have U9 := ZO.oF (L' := { L2 with state := st, eN := jump }) (fn := fn) (defers := defers) hl Zy k4 k5
      refine ⟨.bool jump.isNone, _, by simp only [Instr.endRound, Instr.getLoop, bI, vi, bY, ca, IH, eY], g2, _, .bool jump.isNone, q4.trans ZN, U9, by simp only [aw], hR⟩
     cases e with
     | normal => obtain ⟨L2, hl, hR⟩ := F0; exact fin L2 none .ready hl rfl hR
     | ret => obtain ⟨L2, hl, hR⟩ := F0; exact fin L2 (some .ret) .done hl rfl hR
     | exit id => obtain ⟨L2, hl, hR⟩ := F0; exact fin L2 (some (.exit id)) .done hl rfl hR
     | panic ch => obtain ⟨x, v, _, _, hf⟩ := F0; exact hf.elim
     | goto l => exact F0.elim
     | outgrown => exact F0.elim
   | panic ch => obtain ⟨x, v, _, _, hf⟩ := q7; exact hf.elim
   | ret => exact q7.elim
   | exit id => exact q7.elim
   | goto l => exact q7.elim
   | outgrown => exact q7.elim
end
end Go.Rip
namespace Go.Rip
open Go.RowKit
section
variable {C : cr} {g : Gh} {U ae : St} {w : World} {nt : Nat} {nm : Bool} {ro : Ro} {fr : Option Nat} {Q : Ex -> Env -> St -> Prop} {ρ dv : Env} {mu : Bool}
theorem qt {l : List Operand} (h : ∀ x ∈ l, ρ.ev C x = dv.ev C x) : l.map (ρ.ev C) = l.map (dv.ev C) := List.map_congr_left h
theorem uv {parts : Array (Nat × Operand)} (h : ∀ x ∈ (parts.toList.map (·.2)).toArray, ρ.ev C x = dv.ev C x) : jL C ρ parts = jL C dv parts := by
 unfold jL
 apply List.map_congr_left
 intro p hp
 rw [h p.2 (by simp; exact ⟨p.1, by simpa using hp⟩)]
theorem JB (o : Op) (h : ∀ x ∈ o.operands, ρ.ev C x = dv.ev C x) : gH C mu o ρ U = gH C mu o dv U := by
 cases o with
 | call c =>
   obtain ⟨callee, ⟨args⟩, ⟨QY⟩⟩ := c
   simp only [gH, wh]
   have ha : args.map (ρ.ev C) = args.map (dv.ev C) := qt fun x hx => h x (by simp only [Op.operands, Call.operands]; rw [Array.mem_append]; exact .inr (by simpa using hx))
   cases callee with
   | value f =>
     show fM C.P (ρ.ev C f) (args.map (ρ.ev C)) = fM C.P (dv.ev C f) (args.map (dv.ev C))
     rw [ha, h f (by simp [Op.operands, Call.operands])]
   | invoke r m => rfl
   | builtin b =>
     have hm : ∀ x ∈ args, ρ.ev C x = dv.ev C x := fun x hx => h x (by simp only [Op.operands, Call.operands]; rw [Array.mem_append]; exact .inr (by simpa using hx))
     split <;> simp_all
 | build t parts => simp only [gH]; rw [uv h]
 | buildSlice t n parts => simp only [gH]; rw [uv h]
 | makeFunc fn first cap =>
   simp only [gH]
   rw [qt (l := first.toList) fun x hx => h x (by simp [Op.operands]; exact .inl (by simpa using hx)), qt (l := cap.toList) fun x hx => h x (by simp [Op.operands]; exact .inr (by simpa using hx))]
 | slice t x lo hi m =>
   cases m with
   | some _ => rfl
   | none =>
     simp only [gH]
     have h1 := h x (by simp [Op.operands])
     have h2 : lo.map (ρ.ev C) = lo.map (dv.ev C) := by
      cases lo with
      | none => rfl
      | some y => simp only [Option.map_some]; rw [h y (by simp [Op.operands])]
     have h3 : hi.map (ρ.ev C) = hi.map (dv.ev C) := by
      cases hi with
      | none => rfl
      | some y => simp only [Option.map_some]; rw [h y (by simp [Op.operands])]
     rw [h1, h2, h3]
 | makeMap t r => cases r <;> rfl
 | next i b => cases b <;> simp_all [gH, Op.operands]
 | _ => simp_all [gH, Op.operands]
def cT : AV -> List Nat
 | .box b _ => [b]
 | .ms b _ _ _ _ => [b]
 | .mp m => [m]
 | .it o => [o]
 | .vec _ (.own τ) _ => [τ]
 | _ => []
theorem Rj {b : Nat} (h : ae.live b = U.live b) : ae.box b = U.box b := by simp only [St.box, h]
theorem Eo {p : AV} (h : ∀ b ∈ cT p, ae.live b = U.live b) : jK ae p = jK U p := by
 cases p <;> simp only [jK]
 rw [Rj (h _ (by simp [cT]))]
def quiet : Op -> Bool
 | .move _ | .assign _ | .pick .. | .load .. | .build .. | .buildSlice .. | .fieldAddr .. | .field .. | .indexAddr .. | .index .. | .binOp .. | .unOp .. | .convert .. | .nilCheck _ | .lookup .. | .extract .. | .makeInterface .. | .makeFunc ..
 | .slice .. => true
 | .call c => match c.callee with
   | .value _ => true
   | .builtin .len | .builtin .min | .builtin .max => true
   | _ => false
 | _ => false
def lW : Op -> Bool
 | .load .. | .lookup .. => true
 | _ => false
theorem RY (o : Op) (hq : quiet o = true) (h : lW o = true -> ∀ x ∈ o.operands, ∀ b ∈ cT (ρ.ev C x), ae.live b = U.live b) : gH C mu o ρ ae = gH C mu o ρ U := by
 cases o with
 | call c =>
   obtain ⟨callee, ⟨args⟩, ⟨QY⟩⟩ := c
   simp only [gH, wh]
   cases callee with
   | value f => rfl
   | invoke r m => rfl
   | builtin b =>
     cases b <;> simp only [quiet, bm] at hq
     all_goals (split <;> first
      | rfl
      | (simp only [Dp]; done)
      | contradiction
      | simp_all)
 | load t a =>
   simp only [gH, rh]
   rw [Eo (h rfl a (by simp [Op.operands]))]
 | lookup t m k ok =>
   have := h rfl m (by simp [Op.operands])
   simp only [gH, sM]
   generalize ρ.ev C m = y at this ⊢
   cases y <;> simp_all [cT, St.mp, j6]
 | slice t x lo hi m => cases m <;> rfl
 | _ => first | rfl | simp [quiet] at hq
theorem av.wp_mono {K K' : AV -> St -> Prop} {Kp : AV -> St -> Prop} (hk : ∀ v U, K v U -> K' v U) : ∀ (r : av) {U : St}, r.wp C U K Kp -> r.wp C U K' Kp
 | .val _, _, h => hk _ _ h
 | .jD _ _ _, _, h => hk _ _ h
 | .new _ _ _, _, h => fun b hb => hk _ _ (h b hb)
 | .ji _ _, _, h => fun p hp => hk _ _ (h p hp)
 | .enter _ _, _, h => af.mono h fun r U hr => by cases r <;> first | exact hk _ _ hr | exact hr
 | .yield _ _, _, h => jJ.mono h fun r U hr => by cases r <;> first | exact hk _ _ hr | exact hr
 | .panic _, _, h => h
 | @av.cond _ _ r, _, h => ⟨h.1, av.wp_mono hk r h.2⟩
 | .bad, _, h => h
theorem Fj {x : Operand} {dst : Option Tmp} {v : AV} (h : ∀ d, dst = some d -> x ≠ .tmp d) : (ρ.dT dst v).ev C x = ρ.ev C x := by
 cases dst with
 | none => rfl
 | some d =>
   cases x <;> simp only [Env.dT, Env.put, Env.ev]
   rename_i t
   rw [if_neg (fun e => h d rfl (by rw [e]))]
theorem FX (ops : Array Oper) (o : Oper) {dst : Option Tmp} {v : AV} (h : ∀ d, dst = some d -> d ∉ o.looksAt ops) : gH C mu o.op (ρ.dT dst v) U = gH C mu o.op ρ U :=
 JB o.op fun x hx => Fj fun d hd Vg => h d hd (by
  subst Vg
  exact List.mem_append_left _ (List.mem_filterMap.2 ⟨.tmp d, by simpa using hx, rfl⟩))
theorem AS (ops : Array Oper) (o : Oper) {dst : Option Tmp} {v : AV} (h : ∀ d, dst = some d -> d ∉ o.looksAt ops) : fS ops (ρ.dT dst v) o.guard = fS ops ρ o.guard := by
 cases dst with
 | none => rfl
 | some d =>
   have hd := h d rfl
   unfold fS
   cases hg : o.guard with
   | none => rfl
   | some jw =>
     obtain ⟨j, want⟩ := jw
     simp only
     cases hb : (ops[j]?).bind (·.dst) with
     | none => rfl
     | some t =>
       have cm : t ≠ d := fun e => by
        subst e
        apply hd
        unfold Oper.looksAt
        rw [hg]
        simp only [hb, Option.toList_some, fH, ng, or_true]
       simp only [Env.dT, Env.put, if_neg cm]
theorem JG {d d' : Option Tmp} {v v' : AV} (h : ∀ t, d = some t -> d' ≠ some t) : (ρ.dT d v).dT d' v' = (ρ.dT d' v').dT d v := by
 cases d <;> cases d' <;> simp only [Env.dT]
 rename_i a b
 have cm : b ≠ a := fun e => h a rfl (by rw [e])
 simp only [Env.put, Env.mk.injEq]
 funext t
 by_cases h1 : t = b
 · subst h1; rw [if_pos rfl, if_neg cm, if_pos rfl]
 · rw [if_neg h1]
   by_cases h2 : t = a
   · rw [if_pos h2, if_pos h2]
   · rw [if_neg h2, if_neg h2, if_neg h1]
def nc (mu : List Nat) (o : Oper) : Bool := match o.dst with | some d => mu.contains d | none => false
def lY (C : cr) (mu : List Nat) (ops : Array Oper) (I : St -> Prop) (i : Nat) (K : Env -> St -> Prop) (Kp : AV -> St -> Prop) (ρ : Env) (U : St) : Prop :=
 match ops[i]? with
 | none => K ρ U
 | some o => al (fS ops ρ o.guard) ((gH C (nc mu o) o.op ρ U).wp C U (fun v ae => I ae /\ K (ρ.dT o.dst v) ae) Kp) (K (ρ.dT o.dst (.aO [])) U)
def P7 (o : Oper) (k : Nat) : Bool := o.after.toList.any fun e => Region.binds .any e && Nat.beq e.on k
def jh (ops : Array Oper) (i : Nat) : Bool := match ops[i]? with
 | some o => (List.range ops.size).all fun k => Nat.beq k i || (P7 o k || o.after.toList.any fun e => Region.binds .any e && (match ops[e.on]? with | some m => P7 m k | none => false))
 | none => false
def Dn (ops : Array Oper) (listed : Array Bool) : Prop := ∀ m o, ops[m]? = some o -> listed.getD m false = true -> ∀ e ∈ o.after, Region.binds .any e = true -> listed.getD e.on false = true
theorem DB {o : Oper} {k : Nat} (h : P7 o k = true) : ∃ e ∈ o.after, Region.binds .any e = true /\ e.on = k := by
 unfold P7 at h
 rw [List.any_eq_true] at h
 obtain ⟨e, he, hb⟩ := h
 simp only [bP] at hb
 exact ⟨e, by simpa using he, hb.1, eo hb.2⟩
theorem uO {ops : Array Oper} {i : Nat} {listed : Array Bool} (hD : Dn ops listed) (hr : i ∈ Region.ready .any ops listed) (h : jh ops i = true) (k : Nat) (hk : k < ops.size) (cm : k ≠ i) : listed.getD k false = true := by
 obtain ⟨_, o, ho, bq⟩ := mem_ready.1 hr
 unfold jh at h
 rw [ho] at h
 simp only [dP, List.mem_range, iZ] at h
 rcases h k hk with h | h | h
 · exact absurd (eo h) cm
 · obtain ⟨e, he, hb, yU⟩ := DB h
   rw [<- yU]; exact bq e he hb
 · rw [List.any_eq_true] at h
   obtain ⟨e, he, hb⟩ := h
   rw [bP] at hb
   have h1 := bq e (by simpa using he) hb.1
   have h2 := hb.2
   split at h2
   · rename_i m hm
     obtain ⟨e', jC, dA, aao⟩ := DB h2
     rw [<- aao]; exact hD _ m hm h1 e' jC dA
   · cases h2
theorem Dn.set {ops : Array Oper} {listed : Array Bool} (hD : Dn ops listed) {i : Nat} (hr : i ∈ Region.ready .any ops listed) : Dn ops (listed.setIfInBounds i true) := by
 intro m o ho hl e he hb
 obtain ⟨_, oi, CY, bq⟩ := mem_ready.1 hr
 by_cases Ze : i = m
 · subst Ze
   rw [CY] at ho; cases ho
   exact getD_set_true (bq e he hb)
 · rw [getD_set_ne false Ze] at hl
   exact getD_set_true (hD m o ho hl e he hb)
theorem Dn.none (ops : Array Oper) (n : Nat) : Dn ops (Array.replicate n false) := by
 intro m o ho hl
 rw [Array.getD_eq_getD_getElem?, Array.getElem?_replicate] at hl
 split at hl <;> simp at hl
def Ix (ops : Array Oper) (I : St -> Prop) (i : Nat) (U : St) : Prop := jh ops i = true \/ I U
def mf (C : cr) (mu : List Nat) (ops : Array Oper) (I : St -> Prop) (K : Env -> St -> Prop) (Kp : AV -> St -> Prop) : Nat -> Array Bool -> Env -> St -> Prop
 | 0, listed, ρ, U => Region.ready .any ops listed = [] /\ K ρ U
 | n + 1, listed, ρ, U => (Region.ready .any ops listed = [] -> K ρ U) /\ ∀ i ∈ Region.ready .any ops listed, lY C mu ops (Ix ops I i) i (mf C mu ops I K Kp n (listed.setIfInBounds i true)) Kp ρ U
theorem Gg {mu : List Nat} {ops : Array Oper} {I : St -> Prop} (cA : km nt ops = true) (g0 : Gh) : ∀ (fuel t : Nat) (listed : Array Bool) (g : Gh) (U : St) (w : World) (ρ : Env) (a : Act) (ds : List Deferred), Gh.Le g0 g -> aZ g U w -> fJ C g -> fj g ρ a.tmps -> a.tmps.size = nt -> a.defers = ds ->
 mf C mu ops I (KQ Q) (uM Q) fuel listed ρ U -> wpOpsIn (FW fr) 0 C.P ops (n0 g0 nt nm ds Q) (Region.linearise.go .any ops fuel t listed []) a w := by
 intro fuel
 induction fuel with
 | zero =>
   intro t listed g U w ρ a ds h0 hs hG hr hn hd h
   simp only [Region.linearise.go, List.reverse_nil, wpOpsIn]
   exact ⟨hn, g, U, ρ, [], by simpa using hd, jv _ _ _, h0, hs, hr, h.2⟩
 | succ fuel ih =>
   intro t listed g U w ρ a ds h0 hs hG hr hn hd h
   obtain ⟨h1, h2⟩ := h
   simp only [Region.linearise.go]
   change wpOpsIn (FW fr) 0 C.P ops (n0 g0 nt nm ds Q) (match (Region.ready .any ops listed)[t % (Region.ready .any ops listed).length]? with
    | some i => Region.linearise.go .any ops fuel (t / (Region.ready .any ops listed).length) (listed.setIfInBounds i true) [i]
    | none => [].reverse) a w
   cases hi : (Region.ready .any ops listed)[t % (Region.ready .any ops listed).length]? with
   | none =>
     have Ae : Region.ready .any ops listed = [] := by
      cases hr : Region.ready .any ops listed with
      | nil => rfl
      | cons x xs =>
        rw [hr] at hi
        have aJ : t % (x :: xs).length < (x :: xs).length := Nat.mod_lt _ (by simp)
        simp at hi
        simp at aJ
        omega
     simp only [List.reverse_nil, wpOpsIn]
     exact ⟨hn, g, U, ρ, [], by simpa using hd, jv _ _ _, h0, hs, hr, h1 Ae⟩
   | some i =>
     dsimp only
     rw [linearise_go_acc, List.reverse_singleton, List.singleton_append]
     simp only [wpOpsIn]
     have eY := h2 i (fB hi)
     unfold lY at eY
     cases ho : ops[i]? with
     | none =>
       rw [ho] at eY
       exact ih _ _ g U w ρ a ds h0 hs hG hr hn hd eY
     | some o =>
       rw [ho] at eY
       dsimp only at eY ⊢
       have ke : o ∈ ops.toList := fB (l := ops.toList) (i := i) (a := o) (by rw [iH]; exact ho)
       have C0 : xY nt o = true := by
        unfold km at cA
        rw [dP] at cA
        exact cA o ke
       have NB : ∀ d, o.dst = some d -> d < a.tmps.size := fun d pv => by
        simp only [xY, pv, bP, cL] at C0
        rw [hn]; exact C0.1
       have go : ∀ g' ae w' x v, Gh.Le g g' -> aZ g' ae w' -> aw g' x v -> mf C mu ops I (KQ Q) (uM Q) fuel (listed.setIfInBounds i true) (ρ.dT o.dst x) ae -> wpOpsIn (FW fr) 0 C.P ops (n0 g0 nt nm ds Q) (Region.linearise.go .any ops fuel (t / (Region.ready .any ops listed).length) (listed.setIfInBounds i true) []) (a.put o.dst v) w' := fun g' ae w' x v hle dL hx hk =>
        ih _ _ g' ae w' (ρ.dT o.dst x) (a.put o.dst v) ds (h0.trans hle) dL (hG.mono hle) ((hr.mono hle).dT NB hx) (by rw [(lC a o.dst v).2]; exact hn) (by rw [(lC a o.dst v).1]; exact hd) hk
       cases Iy : fS ops ρ o.guard <;> rw [Iy] at eY <;> simp only [al] at eY
       rename_i b
       have hw := wW hr Iy
       cases b
       · rw [if_neg (by rw [hw]; simp)]
         exact ⟨fun _ _ => trivial, go g U w (.aO []) undef (Gh.Le.refl g) hs rv (eY.2 rfl)⟩
       · rw [if_pos hw]
         refine nf C0 hs hG hr hn (eY.1 rfl) (fun g' ae w' x v hle dL hx hk => go g' ae w' x v hle dL hx hk.2) ?_ (ds := ds)
         intro g' ae w' x v hle dL hx hk
         exact ⟨hn, g', ae, ρ, [], by simpa using hd, jv _ _ _, h0.trans hle, dL, hr.mono hle, x, v, rfl, hx, hk ρ⟩
theorem bp.Bx {id : Nat} {ops : Array Oper} (mu : List Nat) (I : St -> Prop) (hm : C.P.follows .mixedOrders = true) (cA : km nt ops = true) (h : mf C mu ops I (KQ Q) (uM Q) ops.size (Array.replicate ops.size false) ρ U) : bp C nt ro (.region id ops true) Q ρ U := by
 intro g w a fr h1 h2 h3 h4 qh
 refine wpIn_region_draw fun t => ?_
 simp only [Region.schedule, hm, Bool.true_or, if_true, Region.linearise]
 have hs := h1.grow (iw w)
 exact Gg cA g ops.size t _ g U _ ρ a a.defers (Gh.Le.refl g) hs h2 h3 h4 rfl h
def av.yv (C : cr) : av -> AV -> Prop
 | .val u, v => u = v
 | @av.cond p _ r, v => p /\ r.yv C v
 | .enter f args, v => Pure C f args v
 | _, _ => False
theorem av.HK {K : AV -> St -> Prop} {Kp : AV -> St -> Prop} : ∀ (r : av) {v : AV}, r.yv C v -> K v U -> r.wp C U K Kp
 | .val _, _, h, hk => by simp only [av.yv] at h; subst h; exact hk
 | @av.cond _ _ r, _, h, hk => ⟨h.1, av.HK r h.2 hk⟩
 | .enter _ _, _, h, hk => h U _ hk
 | .jD _ _ _, _, h, _ => h.elim
 | .new _ _ _, _, h, _ => h.elim
 | .ji _ _, _, h, _ => h.elim
 | .yield _ _, _, h, _ => h.elim
 | .panic _, _, h, _ => h.elim
 | .bad, _, h, _ => h.elim
def cU (B : List Nat) (aE U : St) : Prop := ∀ b ∈ B, U.live b = aE.live b
def Still (C : cr) (mu : List Nat) (ops : Array Oper) (B : List Nat) (aE : St) (o : Oper) (ρ : Env) (v : AV) : Prop :=
 (fS ops ρ o.guard = .bool true /\ quiet o.op = true /\ (lW o.op = true -> ∀ x ∈ o.op.operands.toList, ∀ b ∈ cT (ρ.ev C x), b ∈ B) /\ (gH C (nc mu o) o.op ρ aE).yv C v) \/ (fS ops ρ o.guard = .bool false /\ v = .aO [])
theorem Still.put {mu : List Nat} {ops : Array Oper} {B : List Nat} {aE : St} {o : Oper} {v : AV} (h : Still C mu ops B aE o ρ v) {dst : Option Tmp} {u : AV} (hd : ∀ d, dst = some d -> d ∉ o.looksAt ops) : Still C mu ops B aE o (ρ.dT dst u) v := by
 unfold Still at h ⊢
 rw [AS ops o hd, FX ops o hd]
 rcases h with ⟨h1, h2, h3, h4⟩ | h
 · refine .inl ⟨h1, h2, fun C6 x hx b hb => h3 C6 x hx b ?_, h4⟩
   rw [Fj fun d pv Vg => hd d pv (by
    subst Vg
    exact List.mem_append_left _ (List.mem_filterMap.2 ⟨.tmp d, hx, rfl⟩))] at hb
   exact hb
 · exact .inr h
theorem Still.step {mu : List Nat} {ops : Array Oper} {B : List Nat} {aE : St} {o : Oper} {v : AV} {i : Nat} {K : Env -> St -> Prop} {Kp : AV -> St -> Prop} (hi : ops[i]? = some o) (h : Still C mu ops B aE o ρ v) (hI : cU B aE U) {I' : St -> Prop} (yL : I' U) (hk : K (ρ.dT o.dst v) U) :
 lY C mu ops I' i K Kp ρ U := by
 unfold lY
 rw [hi]
 dsimp only
 rcases h with ⟨h1, h2, h3, h4⟩ | ⟨h1, rfl⟩
 · rw [h1]
   refine ⟨fun _ => ?_, fun h => by cases h⟩
   have e := RY (C := C) (ρ := ρ) (mu := nc mu o) (ae := U) (U := aE) o.op h2 (fun C6 x hx b hb => hI b (h3 C6 x (by simpa using hx) b hb))
   rw [e]
   exact av.HK _ h4 ⟨yL, hk⟩
 · rw [h1]
   exact ⟨fun h => (by cases h), fun _ => hk⟩
theorem zu {mu : List Nat} {ops : Array Oper} {I : St -> Prop} {i : Nat} {K K' : Env -> St -> Prop} {Kp : AV -> St -> Prop} (hI : I U) (hk : ∀ ρ U, I U -> K ρ U -> K' ρ U) (h : lY C mu ops I i K Kp ρ U) : lY C mu ops I i K' Kp ρ U := by
 unfold lY at h ⊢
 split
 · rename_i ho; rw [ho] at h; exact hk _ _ hI h
 · rename_i o ho
   rw [ho] at h
   dsimp only at h
   cases hg : fS ops ρ o.guard <;> rw [hg] at h <;> simp only [al] at h ⊢
   exact ⟨fun e => av.wp_mono (fun v U hv => ⟨hv.1, hk _ _ hv.1 hv.2⟩) _ (h.1 e), fun e => hk _ _ hI (h.2 e)⟩
theorem yp {mu : List Nat} {ops : Array Oper} {B : List Nat} {aE : St} {K : Env -> St -> Prop} {Kp : AV -> St -> Prop} {i : Nat} {oi : Oper} {v : AV} (hi : ops[i]? = some oi) :
 ∀ (fuel : Nat) (listed : Array Bool) (ρ : Env) (U : St),
  (∀ j oj, ops[j]? = some oj -> j ≠ i -> listed.getD j true = false -> (∀ e ∈ oj.after, Region.binds .any e = true -> e.on ≠ i) -> oi.apart ops oj = true) ->
  i ∈ Region.ready .any ops listed -> Dn ops listed -> Still C mu ops B aE oi ρ v -> cU B aE U ->
  mf C mu ops (cU B aE) K Kp fuel (listed.setIfInBounds i true) (ρ.dT oi.dst v) U -> mf C mu ops (cU B aE) K Kp (fuel + 1) listed ρ U := by
 intro fuel
 induction fuel with
 | zero =>
   intro listed ρ U _ hr hD hy hI H
   refine ⟨fun h => (by rw [h] at hr; cases hr), fun j hj => ?_⟩
   by_cases qi : j = i
   · subst qi; exact hy.step hi hI (.inr hI) H
   · have := ready_mono hj qi
     rw [H.1] at this
     cases this
 | succ fuel ih =>
   intro listed ρ U BV hr hD hy hI H
   refine ⟨fun h => (by rw [h] at hr; cases hr), fun j hj => ?_⟩
   by_cases qi : j = i
   · subst qi; exact hy.step hi hI (.inr hI) H
   · have h1 := H.2 j (ready_mono hj qi)
     obtain ⟨UM, oj, nC, bq⟩ := mem_ready.1 hj
     have NH : ∀ e ∈ oj.after, Region.binds .any e = true -> e.on ≠ i := fun e he hb heq => by
      have h1 := bq e he hb
      have h0 := (mem_ready.1 hr).1
      rw [heq] at h1
      rcases eG i listed.size with h' | h'
      · simp [h'] at h0 h1; rw [h0] at h1; cases h1
      · simp [tX h'] at h1
     obtain ⟨a1, a2, a3⟩ := Oper.apart_spec (BV j oj nC qi UM NH)
     have UH : ∀ k ok, ops[k]? = some ok -> k ≠ i -> (listed.setIfInBounds j true).getD k true = false ->
      (∀ e ∈ ok.after, Region.binds .any e = true -> e.on ≠ i) -> oi.apart ops ok = true := fun k ok hk Fx Zs fF => by
      refine BV k ok hk Fx ?_ fF
      by_cases yQ : j = k
      · subst yQ; exact UM
      · rw [getD_set_ne true yQ] at Zs; exact Zs
     have IF : ¬ jh ops j = true := fun XQ => by
      have h1 := uO hD hj XQ i (iE.1 hi).1 (Ne.symm qi)
      have h0 := (mem_ready.1 hr).1
      rcases eG i listed.size with h' | h'
      · simp [h'] at h0 h1; rw [h0] at h1; cases h1
      · simp [tX h'] at h1
     have next : ∀ (u : AV) (ae : St), cU B aE ae -> mf C mu ops (cU B aE) K Kp fuel ((listed.setIfInBounds i true).setIfInBounds j true) ((ρ.dT oi.dst v).dT oj.dst u) ae ->
      mf C mu ops (cU B aE) K Kp (fuel + 1) (listed.setIfInBounds j true) (ρ.dT oj.dst u) ae := fun u ae yL hA => by
      refine ih (listed.setIfInBounds j true) (ρ.dT oj.dst u) ae UH (ready_mono hr (Ne.symm qi)) (hD.set hj) (hy.put a3) yL ?_
      rw [Array.setIfInBounds_comm _ _ qi, <- JG (d := oi.dst) (d' := oj.dst) (fun t ht => a2 t ht)]
      exact hA
     unfold lY at h1 ⊢
     rw [nC] at h1 ⊢
     dsimp only at h1 ⊢
     rw [AS ops oj a1, FX ops oj a1] at h1
     cases hg : fS ops ρ oj.guard <;> rw [hg] at h1 <;> simp only [al] at h1 ⊢
     exact ⟨fun e => av.wp_mono (fun u ae hu => ⟨hu.1, next u ae (hu.1.resolve_left IF) hu.2⟩) _ (h1.1 e), fun e => next _ U hI (h1.2 e)⟩
def gI (ops : Array Oper) : List (Bool × Nat) -> Array Bool -> Bool
 | [], listed => (Region.ready .any ops listed).isEmpty
 | (true, i) :: r, listed => (Region.ready .any ops listed).contains i && Region.free .any ops listed i && gI ops r (listed.setIfInBounds i true)
 | (false, i) :: r, listed => (Region.ready .any ops listed == [i]) && gI ops r (listed.setIfInBounds i true)
def kn (C : cr) (mu : List Nat) (ops : Array Oper) (B : List Nat) (aE : St) (K : Env -> St -> Prop) (Kp : AV -> St -> Prop) : List (Bool × Nat) -> Env -> St -> Prop
 | [], ρ, U => K ρ U
 | (true, i) :: r, ρ, U => ∃ o v, ops[i]? = some o /\ Still C mu ops B aE o ρ v /\ kn C mu ops B aE K Kp r (ρ.dT o.dst v) U
 | (false, i) :: r, ρ, U => lY C mu ops (Ix ops (cU B aE) i) i (kn C mu ops B aE K Kp r) Kp ρ U
theorem N2 {ops : Array Oper} {i : Nat} {listed : Array Bool} (hD : Dn ops listed) (hi : i ∈ Region.ready .any ops listed) (ha : jh ops i = true) : ∀ {r : List (Bool × Nat)}, gI ops r (listed.setIfInBounds i true) = true -> r = []
 | [], _ => rfl
 | (b, k) :: r, h => by
   exfalso
   have hk : k ∈ Region.ready .any ops (listed.setIfInBounds i true) := by
    cases b with
    | true => simp only [gI, bP] at h; simpa using h.1.1
    | false => simp only [gI, bP, beq_iff_eq] at h; rw [h.1]; simp
   obtain ⟨h0, ok, cA, _⟩ := mem_ready.1 hk
   have AW := (mem_ready.1 hi).1
   have cm : k ≠ i := fun e => by
    subst e
    have aJ : k < listed.size := by
     rcases eG k listed.size with h | h
     · exact h
     · simp [tX h] at AW
    simp [aJ] at h0
   have h1 := uO hD hi ha k (iE.1 cA).1 cm
   rw [getD_set_ne true (Ne.symm cm)] at h0
   rcases eG k listed.size with h' | h'
   · simp [h'] at h0 h1; rw [h0] at h1; cases h1
   · simp [tX h'] at h1
theorem rn {mu : List Nat} {ops : Array Oper} {B : List Nat} {aE : St} {K : Env -> St -> Prop} {Kp : AV -> St -> Prop} : ∀ (cW : List (Bool × Nat)) (listed : Array Bool) (ρ : Env) (U : St), gI ops cW listed = true -> Dn ops listed -> (cW = [] \/ cU B aE U) -> kn C mu ops B aE K Kp cW ρ U ->
 mf C mu ops (cU B aE) K Kp cW.length listed ρ U
 | [], listed, ρ, U, hp, hD, hI, h => ⟨by simpa [gI] using hp, h⟩
 | (true, i) :: r, listed, ρ, U, hp, hD, hI, h => by
   have hI := hI.resolve_left (by simp)
   simp only [gI, bP] at hp
   obtain ⟨o, v, ho, eY, hr⟩ := h
   exact yp ho r.length listed ρ U (Region.free_spec ho hp.1.2) (by simpa using hp.1.1) hD eY hI (rn r _ _ U hp.2 (hD.set (by simpa using hp.1.1)) (.inr hI) hr)
 | (false, i) :: r, listed, ρ, U, hp, hD, hI, h => by
   have hS := hI.resolve_left (by simp)
   simp only [gI, bP, beq_iff_eq] at hp
   refine ⟨fun h0 => (by rw [hp.1] at h0; cases h0), fun j hj => ?_⟩
   have AX := hj
   rw [hp.1, ng] at hj
   subst hj
   exact zu (.inr hS) (fun dv ae yL hr => rn r _ dv ae hp.2 (hD.set AX) (yL.elim (fun ha => .inl (N2 hD AX ha hp.2)) .inr) hr) h
theorem bp.ua {id : Nat} {ops : Array Oper} (mu : List Nat) (B : List Nat) (cW : List (Bool × Nat)) (hm : C.P.follows .mixedOrders = true) (cA : km nt ops = true) (hp : (gI ops cW (Array.replicate ops.size false) && (cW.length == ops.size)) = true)
 (h : kn C mu ops B U (KQ Q) (uM Q) cW ρ U) : bp C nt ro (.region id ops true) Q ρ U := by
 simp only [bP, beq_iff_eq] at hp
 refine bp.Bx mu (cU B U) hm cA ?_
 have := rn cW _ ρ U hp.1 (Dn.none _ _) (.inr fun _ _ => rfl) h
 rw [hp.2] at this
 exact this
theorem av.Ef {K : AV -> St -> Prop} {Kp yo : AV -> St -> Prop} (hp : ∀ v U, Kp v U -> yo v U) : ∀ (r : av) {U : St}, r.wp C U K Kp -> r.wp C U K yo
 | .val _, _, h => h
 | .jD _ _ _, _, h => h
 | .new _ _ _, _, h => h
 | .ji _ _, _, h => h
 | .enter _ _, _, h => af.mono h fun r U hr => by cases r <;> first | exact hr | exact hp _ _ hr
 | .yield _ _, _, h => jJ.mono h fun r U hr => by cases r <;> first | exact hr | exact hp _ _ hr
 | .panic _, _, h => hp _ _ h
 | @av.cond _ _ r, _, h => ⟨h.1, av.Ef hp r h.2⟩
 | .bad, _, h => h
theorem ia {mu : List Nat} {ops : Array Oper} {B : List Nat} {aE : St} {K K' : Env -> St -> Prop} {Kp yo : AV -> St -> Prop} (hk : ∀ ρ U, K ρ U -> K' ρ U) (hp : ∀ v U, Kp v U -> yo v U) : ∀ (l : List (Bool × Nat)) {ρ : Env} {U : St}, kn C mu ops B aE K Kp l ρ U -> kn C mu ops B aE K' yo l ρ U
 | [], _, _, h => hk _ _ h
 | (true, i) :: r, ρ, U, h => by
   obtain ⟨o, v, h1, h2, h3⟩ := h
   exact ⟨o, v, h1, h2, ia hk hp r h3⟩
 | (false, i) :: r, ρ, U, h => by
   simp only [kn, lY] at h ⊢
   split
   · rename_i ho; rw [ho] at h; exact ia hk hp r h
   · rename_i o ho
     rw [ho] at h
     dsimp only at h
     cases hg : fS ops ρ o.guard <;> rw [hg] at h <;> simp only [al] at h ⊢
     exact ⟨fun e => av.wp_mono (fun v U hv => ⟨hv.1, ia hk hp r hv.2⟩) _ (av.Ef hp _ (h.1 e)), fun e => ia hk hp r (h.2 e)⟩
end
end Go.Rip
namespace Go.Rip
open Go.RowKit
def nT (kk : IntKind) (a : Int) (v : AV) (kv : List AV × List AV) : List AV × List AV := fl (.int kk a) v kv.1 kv.2
theorem qZ (kk : IntKind) (a b : Int) : gB (.int kk a) (.int kk b) = decide (a < b) := by simp [gB]
def uL (kk : IntKind) (kv : List AV × List AV) : Prop := kv.1.length = kv.2.length /\ ∀ y ∈ kv.1, ∃ n, y = .int kk n
theorem Df (k v : AV) : ∀ ks vs : List AV, ks.length = vs.length -> (fl k v ks vs).1.length = (fl k v ks vs).2.length
 | [], [], _ => rfl
 | y :: ys, w :: ws, h => by
   simp only [fl]
   split
   · simpa using h
   · simpa using Df k v ys ws (by simpa using h)
 | [], _ :: _, h => by simp at h
 | _ :: _, [], h => by simp at h
theorem FG {kk : IntKind} {a : Int} {v : AV} {kv : List AV × List AV} (h : uL kk kv) : uL kk (nT kk a v kv) :=
 ⟨Df _ _ _ _ h.1, fun y hy => by
   rcases tC _ _ y hy with rfl | hy
   · exact ⟨a, rfl⟩
   · exact h.2 y hy⟩
theorem Bf {kk : IntKind} {a b : Int} {v w : AV} (yM : a ≠ b) : ∀ ks vs : List AV, ks.length = vs.length -> (∀ y ∈ ks, ∃ n, y = .int kk n) ->
 fl (.int kk a) v (fl (.int kk b) w ks vs).1 (fl (.int kk b) w ks vs).2 = fl (.int kk b) w (fl (.int kk a) v ks vs).1 (fl (.int kk a) v ks vs).2
 | [], [], _, _ => by
   simp only [fl, qZ]
   by_cases h : a < b
   · have : ¬ b < a := by omega
     simp [h, this]
   · have : b < a := by omega
     simp [h, this]
 | y :: ys, x :: xs, h, hy => by
   obtain ⟨n, rfl⟩ := hy _ (List.mem_cons_self ..)
   have ih := Bf (v := v) (w := w) yM ys xs (by simpa using h) (fun y hm => hy y (by simp [hm]))
   simp only [fl, qZ]
   by_cases h1 : a < n <;> by_cases h2 : b < n <;> by_cases h3 : a < b
   all_goals (have h4 : b < a \/ ¬ b < a := by omega)
   all_goals (rcases h4 with h4 | h4 <;> simp only [h1, h2, h3, h4, bM, bZ, if_true, if_false, bm, fl, qZ] <;> first | omega | (simp only [ih]; done) | rfl | (simp [fl, qZ, h1, h2, h3, h4, ih]; done))
 | [], _ :: _, h, _ => by simp at h
 | _ :: _, [], h, _ => by simp at h
theorem IT {kk : IntKind} {a b : Int} {v w : AV} (yM : a ≠ b) {kv : List AV × List AV} (h : uL kk kv) : nT kk a v (nT kk b w kv) = nT kk b w (nT kk a v kv) := Bf yM kv.1 kv.2 h.1 h.2
structure rE where
 i : Nat
 key : Int
 val : AV
def mE (kk : IntKind) (l : List rE) (kv : List AV × List AV) : List AV × List AV := l.foldl (fun kv x => nT kk x.key x.val kv) kv
theorem vu {kk : IntKind} : ∀ (oB : List rE) (x : rE) (oC : List rE) {kv : List AV × List AV}, uL kk kv -> (∀ y ∈ oB, y.key ≠ x.key) -> mE kk (oB ++ x :: oC) kv = mE kk (oB ++ oC) (nT kk x.key x.val kv)
 | [], x, oC, _, _, _ => rfl
 | y :: oB, x, oC, kv, h, hk => by
   show mE kk (oB ++ x :: oC) (nT kk y.key y.val kv) = mE kk (oB ++ oC) (nT kk y.key y.val (nT kk x.key x.val kv))
   rw [vu oB x oC (FG h) (fun z hz => hk z (by simp [hz])), IT (hk y (by simp)).symm h]
theorem CC {kk : IntKind} {a : Int} : ∀ (ks : List AV) (i : Nat), (∀ y ∈ ks, ∃ n, y = .int kk n /\ n ≠ a) -> jG .i (.int kk a) ks i = some none
 | [], _, _ => rfl
 | y :: ys, i, h => by
   obtain ⟨n, rfl, hn⟩ := h _ (List.mem_cons_self ..)
   have cm : (a == n) = false := by simpa using Ne.symm hn
   simp only [jG, fz, if_true, cm, bm, if_false]
   exact CC ys (i + 1) fun y hy => h y (by simp [hy])
theorem set_set (U : St) (b : Nat) (x y : Live) : (U.set b x).set b y = U.set b y := by
 simp only [St.set, St.mk.injEq, and_true]; funext q; split <;> rfl
theorem Vt (U : St) (b : Nat) (ks vs : List AV) : (U.set b (.mp ks vs)).mp b = some (ks, vs) := by simp [St.mp, St.set]
section
variable {C : cr} {mu : List Nat} {ops : Array Oper} {B : List Nat} {aE : St} {K : Env -> St -> Prop} {Kp : AV -> St -> Prop}
def WW (C : cr) (ops : Array Oper) (ρ : Env) (t : TypeId) (m : Nat) (kk : IntKind) (listed : Array Bool) (x : rE) : Prop := ∃ o v, ops[x.i]? = some o /\ o.op = .insert t (.tmp m) (.const (.int kk x.key)) v /\ o.dst = none /\ o.guard = none /\ ρ.ev C v = x.val /\
 ∀ e ∈ o.after, Region.binds .any e = true -> listed.getD e.on false = true
def Sr (ops : Array Oper) (listed : Array Bool) (l : List rE) : Prop := ∀ j o, ops[j]? = some o -> listed.getD j true = false -> (∃ x ∈ l, x.i = j) \/ ∀ x ∈ l, ∃ e ∈ o.after, Region.binds .any e = true /\ e.on = x.i
theorem Ry {t : TypeId} {m : Nat} {kk : IntKind} {e : TypeId} (ht : nY C.P t = some (.i, e)) {id : Nat} {ρ : Env} (hm : ρ.get m = .mp id) (hB : id ∉ B) (mm : Nat) : ∀ (n : Nat) (l : List rE) (listed : Array Bool) (U : St) (kv : List AV × List AV), l.length = n ->
 (∀ x ∈ l, listed.getD x.i true = false) -> Sr ops listed l -> l.Pairwise (fun x y => x.i ≠ y.i /\ x.key ≠ y.key) -> (∀ x ∈ l, WW C ops ρ t m kk listed x) -> cU B aE U -> uL kk kv ->
 (∀ x ∈ l, .int kk x.key ∉ kv.1) -> (∀ jR : Array Bool, jR.size = listed.size -> (∀ j, jR.getD j true = false ↔ listed.getD j true = false /\ ¬ ∃ x ∈ l, x.i = j) -> mf C mu ops (cU B aE) K Kp mm jR ρ (U.set id (.mp (mE kk l kv).1 (mE kk l kv).2))) ->
 mf C mu ops (cU B aE) K Kp (n + mm) listed ρ (U.set id (.mp kv.1 kv.2)) := by
 intro n
 induction n with
 | zero =>
   intro l listed U kv hl yR sA hp cA hI PH fF hK
   obtain rfl : l = [] := List.eq_nil_of_length_eq_zero hl
   rw [cq]
   exact hK listed rfl fun j => by simp
 | succ n ih =>
   intro l listed U kv hl yR sA hp cA hI PH fF hK
   have C5 : ∀ x ∈ l, x.i ∈ Region.ready .any ops listed := fun x hx => by
    obtain ⟨o, v, h1, _, _, _, _, h6⟩ := cA x hx
    exact mem_ready.2 ⟨yR x hx, o, h1, h6⟩
   rw [show n + 1 + mm = (n + mm) + 1 by omega]
   refine ⟨fun h => ?_, fun j hj => ?_⟩
   · obtain ⟨x, l', rfl⟩ : ∃ x l', l = x :: l' := by cases l with | nil => simp at hl | cons x l' => exact ⟨x, l', rfl⟩
     have := C5 x (by simp)
     rw [h] at this; cases this
   · obtain ⟨x, hx, rfl⟩ : ∃ x ∈ l, x.i = j := by
      obtain ⟨h0, oj, nC, bq⟩ := mem_ready.1 hj
      rcases sA j oj nC h0 with h | h
      · exact h
      · exfalso
        obtain ⟨x, l', rfl⟩ : ∃ x l', l = x :: l' := by cases l with | nil => simp at hl | cons x l' => exact ⟨x, l', rfl⟩
        obtain ⟨ed, he, hb, yU⟩ := h x (by simp)
        have k1 := bq ed he hb
        rw [yU] at k1
        have k2 := yR x (by simp)
        rcases eG x.i listed.size with h' | h'
        · simp [h'] at k1 k2; rw [k2] at k1; cases k1
        · simp [tX h'] at k1
     obtain ⟨o, v, h1, h2, h3, h4, h5, h6⟩ := cA x hx
     obtain ⟨oB, oC, rfl⟩ := List.append_of_mem hx
     have hpa := hp
     rw [List.pairwise_append] at hp
     obtain ⟨p1, p2, p3⟩ := hp
     rw [List.pairwise_cons] at p2
     have GL : jG .i (.int kk x.key) kv.1 0 = some none := CC _ _ fun y hy => by
      obtain ⟨n, rfl⟩ := PH.2 y hy
      exact ⟨n, rfl, fun e => fF x hx (by rw [<- e]; exact hy)⟩
     unfold lY
     rw [h1]
     dsimp only
     rw [h4, h2, h3]
     refine ⟨fun _ => ?_, fun h => by cases h⟩
     have hop : gH C (nc mu o) (.insert t (.tmp m) (.const (.int kk x.key)) v) ρ (U.set id (.mp kv.1 kv.2)) = .jD (.aO []) id (.mp (nT kk x.key x.val kv).1 (nT kk x.key x.val kv).2) := by
      show nZ C.P t (ρ.ev C (.tmp m)) (ρ.ev C (.const (.int kk x.key))) (ρ.ev C v) _ = _
      rw [h5, show ρ.ev C (.tmp m) = .mp id from hm, show ρ.ev C (.const (.int kk x.key)) = .int kk x.key from rfl]
      simp only [nZ, ht, Vt, GL, nV, nT]
     rw [hop]
     refine ⟨.inr fun b hb => ?_, ?_⟩
     · have cm : b ≠ id := fun e => hB (e ▸ hb)
       rw [set_set]
       simp only [St.set, if_neg cm]
       exact hI b hb
     · show mf C mu ops (cU B aE) K Kp (n + mm) (listed.setIfInBounds x.i true) ρ _
       rw [set_set]
       have aJ : x.i < listed.size := by
        have h0 := yR x hx
        rcases eG x.i listed.size with h | h
        · exact h
        · simp [tX h] at h0
       have PX : (listed.setIfInBounds x.i true).getD x.i true = true := by simp [aJ]
       have ju : ∀ y ∈ oB ++ oC, y ∈ oB ++ x :: oC := fun y hy => by
        simp only [fH, eA] at hy ⊢
        rcases hy with hy | hy
        · exact .inl hy
        · exact .inr (.inr hy)
       have cm : ∀ y ∈ oB ++ oC, x.i ≠ y.i := fun y hy => by
        rcases fH.1 hy with hy | hy
        · exact (p3 y hy x (by simp)).1.symm
        · exact (p2.1 y hy).1
       refine ih (oB ++ oC) (listed.setIfInBounds x.i true) U (nT kk x.key x.val kv) ?_ ?_ ?_ ?_ ?_ hI (FG PH) ?_ ?_
       · simp at hl ⊢; omega
       · intro y hy
         rw [getD_set_ne true (cm y hy)]
         exact yR y (ju y hy)
       · intro j oj nC h0
         have Y5 : x.i ≠ j := fun e => by subst e; rw [PX] at h0; cases h0
         rw [getD_set_ne true Y5] at h0
         rcases sA j oj nC h0 with ⟨y, hy, rfl⟩ | h
         · left
           refine ⟨y, ?_, rfl⟩
           simp only [fH, eA] at hy ⊢
           rcases hy with hy | rfl | hy
           · exact .inl hy
           · exact absurd rfl Y5
           · exact .inr hy
         · right
           exact fun y hy => h y (ju y hy)
       · rw [List.pairwise_append]
         exact ⟨p1, p2.2, fun y hy z hz => p3 y hy z (by simp [hz])⟩
       · intro y hy
         obtain ⟨o', v', q1, q2, q3, q4, q5, q6⟩ := cA y (by simp only [fH, eA] at hy ⊢; rcases hy with hy | hy; exact .inl hy; exact .inr (.inr hy))
         exact ⟨o', v', q1, q2, q3, q4, q5, fun ed he hb => getD_set_true (q6 ed he hb)⟩
       · intro y hy ke
         rcases tC _ _ _ ke with e | e
         · simp only [AV.int.injEq, true_and] at e
           rcases fH.1 hy with hy | hy
           · exact (p3 y hy x (by simp)).2 e
           · exact (p2.1 y hy).2 e.symm
         · exact fF y (by simp only [fH, eA] at hy ⊢; rcases hy with hy | hy; exact .inl hy; exact .inr (.inr hy)) e
       · rw [<- vu oB x oC PH (fun y hy => (p3 y hy x (by simp)).2)]
         intro jR dL AY
         refine hK jR (by rw [dL]; simp) fun j => ?_
         rw [AY j]
         by_cases e : x.i = j
         · subst e
           rw [PX]
           constructor
           · rintro ⟨h, _⟩; cases h
           · rintro ⟨_, h⟩; exact absurd ⟨x, by simp, rfl⟩ h
         · rw [getD_set_ne true e]
           refine and_congr_right fun _ => not_congr ?_
           constructor
           · rintro ⟨y, hy, rfl⟩; exact ⟨y, ju y hy, rfl⟩
           · rintro ⟨y, hy, rfl⟩
             refine ⟨y, ?_, rfl⟩
             simp only [fH, eA] at hy ⊢
             rcases hy with hy | rfl | hy
             · exact .inl hy
             · exact absurd rfl e
             · exact .inr hy
def mJ (ops : Array Oper) : List (Bool × Nat) -> Array Bool -> Option (Array Bool)
 | [], listed => some listed
 | (true, i) :: r, listed => cond ((Region.ready .any ops listed).contains i && Region.free .any ops listed i) (mJ ops r (listed.setIfInBounds i true)) none
 | (false, i) :: r, listed => cond (Region.ready .any ops listed == [i] && !jh ops i) (mJ ops r (listed.setIfInBounds i true)) none
theorem xZ {m : Nat} {Nc : Array Bool} {K0 : Env -> St -> Prop} (tq : ∀ ρ U, Dn ops Nc -> cU B aE U -> K0 ρ U -> mf C mu ops (cU B aE) K Kp m Nc ρ U) : ∀ (cW : List (Bool × Nat)) (listed : Array Bool) (ρ : Env) (U : St), mJ ops cW listed = some Nc -> Dn ops listed -> cU B aE U -> kn C mu ops B aE K0 Kp cW ρ U ->
 mf C mu ops (cU B aE) K Kp (cW.length + m) listed ρ U
 | [], listed, ρ, U, hp, hD, hI, h => by
   simp only [mJ, gq] at hp
   subst hp
   simpa using tq ρ U hD hI h
 | (true, i) :: r, listed, ρ, U, hp, hD, hI, h => by
   simp only [mJ] at hp
   cases hc : ((Region.ready .any ops listed).contains i && Region.free .any ops listed i) with
   | false => rw [hc] at hp; cases hp
   | true =>
     rw [hc] at hp
     simp only [bP] at hc
     obtain ⟨o, v, ho, eY, hr⟩ := h
     have := yp ho (r.length + m) listed ρ U (Region.free_spec ho hc.2) (by simpa using hc.1) hD eY hI (xZ tq r _ _ U hp (hD.set (by simpa using hc.1)) hI hr)
     rw [show ((true, i) :: r).length + m = r.length + m + 1 by simp; omega]
     exact this
 | (false, i) :: r, listed, ρ, U, hp, hD, hI, h => by
   simp only [mJ] at hp
   cases hc : (Region.ready .any ops listed == [i] && !jh ops i) with
   | false => rw [hc] at hp; cases hp
   | true =>
     rw [hc] at hp
     simp only [bP, beq_iff_eq, Bool.not_eq_true'] at hc
     obtain ⟨hc, IF⟩ := hc
     rw [show ((false, i) :: r).length + m = r.length + m + 1 by simp; omega]
     refine ⟨fun h0 => (by rw [hc] at h0; cases h0), fun j hj => ?_⟩
     have AX := hj
     rw [hc, ng] at hj
     subst hj
     exact zu (.inr hI) (fun dv ae yL hr => xZ tq r _ dv ae hp (hD.set AX) (yL.resolve_left (by rw [IF]; simp)) hr) h
structure kU where
 t : TypeId
 m : Nat
 kk : IntKind
 l : List Nat
def GV (I : kU) (o : Oper) : Option (Int × Operand) := match o.op, o.dst, o.guard with
 | .insert t (.tmp m) (.const (.int kk a)) v, none, none => cond (Nat.beq t I.t && (Nat.beq m I.m && decide (kk = I.kk))) (some (a, v)) none
 | _, _, _ => none
def jN (ops : Array Oper) (I : kU) (i : Nat) : Option (Int × Operand) := (ops[i]?).bind (GV I)
def BQ (listed : Array Bool) (o : Oper) : Bool := o.after.toList.all fun e => !Region.binds .any e || listed.getD e.on false
def zT (ops : Array Oper) (I : kU) (listed : Array Bool) : Bool := (List.range ops.size).all fun j => listed.getD j true || (I.l.contains j || (match ops[j]? with
 | some o => I.l.all fun i => o.after.toList.any fun e => Region.binds .any e && Nat.beq e.on i
 | none => true))
def nE (ops : Array Oper) (I : kU) (listed : Array Bool) : Bool :=
 zT ops I listed && (I.l.all (fun i => !listed.getD i true) && (Nat.beq listed.size ops.size && (I.l.all (fun i => Nat.blt i ops.size && ((jN ops I i).isSome && (match ops[i]? with | some o => BQ listed o | none => false)))
  && (decide I.l.Nodup && decide (I.l.map fun i => ((jN ops I i).map (·.1)).getD 0).Nodup))))
def eV (listed : Array Bool) (l : List Nat) : Array Bool := l.foldl (fun a i => a.setIfInBounds i true) listed
theorem rZ : ∀ (l : List Nat) (a : Array Bool), (eV a l).size = a.size
 | [], _ => rfl
 | i :: l, a => by
   show (eV (a.setIfInBounds i true) l).size = _
   rw [rZ l]; simp
theorem uc : ∀ (l : List Nat) (a : Array Bool) (j : Nat), (eV a l).getD j true = false ↔ a.getD j true = false /\ j ∉ l
 | [], _, _ => by simp [eV]
 | i :: l, a, j => by
   show (eV (a.setIfInBounds i true) l).getD j true = false ↔ _
   rw [uc l]
   by_cases e : i = j
   · subst e
     have : (a.setIfInBounds i true).getD i true = true := by
      by_cases h : i < a.size
      · simp [h]
      · simp [tX (Nat.le_of_not_lt h)]
     rw [this]; simp
   · rw [getD_set_ne true e]; simp [Ne.symm e]
def kQ (C : cr) (ops : Array Oper) (ρ : Env) (I : kU) : List rE := I.l.filterMap fun i => (jN ops I i).map fun p => ⟨i, p.1, ρ.ev C p.2⟩
def GU (C : cr) (ops : Array Oper) (B : List Nat) (I : kU) (K : Env -> St -> Prop) (ρ : Env) (U : St) : Prop :=
 ∃ id, ρ.get I.m = .mp id /\ U.mp id = some ([], []) /\ id ∉ B /\ K ρ (U.set id (.mp (mE I.kk (kQ C ops ρ I) ([], [])).1 (mE I.kk (kQ C ops ρ I) ([], [])).2))
theorem GW {I : kU} {o : Oper} {a : Int} {v : Operand} (h : GV I o = some (a, v)) : o.op = .insert I.t (.tmp I.m) (.const (.int I.kk a)) v /\ o.dst = none /\ o.guard = none := by
 unfold GV at h
 split at h
 · rename_i t m kk a' v' h1 h2 h3
   cases hc : (Nat.beq t I.t && (Nat.beq m I.m && decide (kk = I.kk))) with
   | false => rw [hc] at h; cases h
   | true =>
     rw [hc] at h
     simp only [bP, cL] at hc
     obtain ⟨e1, e2, e3⟩ := hc
     have e1 := eo e1
     have e2 := eo e2
     simp only [cond_true, gq, jz] at h
     obtain ⟨rfl, rfl⟩ := h
     exact ⟨by rw [h1, e1, e2, e3], h2, h3⟩
 · cases h
theorem EZ {U : St} {id : Nat} {kv : List AV × List AV} (h : U.mp id = some kv) : U.set id (.mp kv.1 kv.2) = U := by
 have := St.mH.1 h
 simp only [St.set]
 cases U with
 | mk live nb =>
   simp only [St.mk.injEq, and_true]
   funext q
   split
   · rename_i e; subst e; exact this.symm
   · rfl
theorem Dn.eV {I : kU} {listed : Array Bool} (hD : Dn ops listed) (hc : nE ops I listed = true) : Dn ops (Go.Rip.eV listed I.l) := by
 simp only [nE, bP, dP] at hc
 obtain ⟨h0, h1, h2, h3, _⟩ := hc
 have h2 := eo h2
 have mono : ∀ (l : List Nat) (a : Array Bool) (j : Nat), a.getD j false = true -> (Go.Rip.eV a l).getD j false = true := fun l => by
  induction l with
  | nil => exact fun a j h => h
  | cons i l ih => exact fun a j h => ih _ j (getD_set_true h)
 intro m o ho hl e he hb
 by_cases hm : m ∈ I.l
 · have := (h3 m hm).2.2
   rw [ho] at this
   simp only [BQ, dP, iZ] at this
   have := this e (by simpa using he)
   rw [hb] at this
   exact mono _ _ _ (by simpa using this)
 · have aJ : m < listed.size := by rw [h2]; exact (iE.1 ho).1
   have hlm : listed.getD m false = true := by
    cases hh : listed.getD m true with
    | false =>
      have k := (uc I.l listed m).2 ⟨hh, hm⟩
      have hs : m < (Go.Rip.eV listed I.l).size := by rw [rZ]; exact aJ
      simp [hs] at k hl
      rw [k] at hl; cases hl
    | true => simp [aJ] at hh ⊢; exact hh
   exact mono _ _ _ (hD m o ho hlm e he hb)
theorem IU {I : kU} {listed : Array Bool} {e : TypeId} {mm : Nat} {K1 : Env -> St -> Prop} (ht : nY C.P I.t = some (.i, e)) (hc : nE ops I listed = true)
 (hK1 : ∀ ρ U, Dn ops (eV listed I.l) -> cU B aE U -> K1 ρ U -> mf C mu ops (cU B aE) K Kp mm (eV listed I.l) ρ U) : ∀ ρ U, Dn ops listed -> cU B aE U -> GU C ops B I K1 ρ U -> mf C mu ops (cU B aE) K Kp (I.l.length + mm) listed ρ U := by
 rintro ρ U hD hI ⟨id, hm, CW, hB, hK⟩
 have hDs := hD.eV hc
 simp only [nE, bP, dP, cL, Bool.not_eq_true'] at hc
 obtain ⟨h0, h1, h2, h3, h4, h5⟩ := hc
 have h2 := eo h2
 have GP : ∀ i ∈ I.l, ∃ a v, jN ops I i = some (a, v) := fun i hi => by
  have := (h3 i hi).2.1
  obtain ⟨p, hp⟩ := Option.isSome_iff_exists.1 this
  exact ⟨p.1, p.2, hp⟩
 have ke : ∀ x, x ∈ kQ C ops ρ I ↔ ∃ i ∈ I.l, ∃ a v, jN ops I i = some (a, v) /\ x = ⟨i, a, ρ.ev C v⟩ := fun x => by
  simp only [kQ, List.mem_filterMap, mv]
  constructor
  · rintro ⟨i, hi, ⟨a, v⟩, hp, rfl⟩; exact ⟨i, hi, a, v, hp, rfl⟩
  · rintro ⟨i, hi, a, v, hp, rfl⟩; exact ⟨i, hi, (a, v), hp, rfl⟩
 have k9 : ∀ j, (∃ x ∈ kQ C ops ρ I, x.i = j) ↔ j ∈ I.l := fun j => by
  constructor
  · rintro ⟨x, hx, rfl⟩
    obtain ⟨i, hi, a, v, hp, rfl⟩ := (ke _).1 hx
    exact hi
  · intro hj
    obtain ⟨a, v, hp⟩ := GP j hj
    exact ⟨_, (ke _).2 ⟨j, hj, a, v, hp, rfl⟩, rfl⟩
 rw [<- EZ CW]
 have hlen : (kQ C ops ρ I).length = I.l.length := by
  have : ∀ l : List Nat, (∀ i ∈ l, ∃ a v, jN ops I i = some (a, v)) -> (l.filterMap fun i => (jN ops I i).map fun p => (⟨i, p.1, ρ.ev C p.2⟩ : rE)).length = l.length := fun l => by
   induction l with
   | nil => intro _; rfl
   | cons i l ih =>
     intro h
     obtain ⟨a, v, hp⟩ := h i (by simp)
     simp only [List.filterMap_cons, hp, Option.map_some, jy, ih fun j hj => h j (by simp [hj])]
  exact this _ GP
 have hpw : (kQ C ops ρ I).Pairwise (fun x y => x.i ≠ y.i /\ x.key ≠ y.key) := by
  have : ∀ l : List Nat, (∀ i ∈ l, ∃ a v, jN ops I i = some (a, v)) -> l.Nodup -> (l.map fun i => ((jN ops I i).map (·.1)).getD 0).Nodup -> (l.filterMap fun i => (jN ops I i).map fun p => (⟨i, p.1, ρ.ev C p.2⟩ : rE)).Pairwise (fun x y => x.i ≠ y.i /\ x.key ≠ y.key) := fun l => by
   induction l with
   | nil => intro _ _ _; exact List.Pairwise.nil
   | cons i l ih =>
     intro h hn hk
     obtain ⟨a, v, hp⟩ := h i (by simp)
     rw [List.nodup_cons] at hn
     rw [dx, List.nodup_cons] at hk
     simp only [List.filterMap_cons, hp, Option.map_some]
     refine List.Pairwise.cons (fun y hy => ?_) (ih (fun j hj => h j (by simp [hj])) hn.2 hk.2)
     rw [List.mem_filterMap] at hy
     obtain ⟨j, hj, Y6⟩ := hy
     rw [mv] at Y6
     obtain ⟨p, FA, rfl⟩ := Y6
     refine ⟨fun e => hn.1 (by have e : i = j := e; rw [e]; exact hj), fun e => hk.1 ?_⟩
     have e : a = p.1 := e
     refine List.mem_map.2 ⟨j, hj, ?_⟩
     rw [FA, hp]; simp [e]
  exact this _ GP h4 h5
 refine Ry (kk := I.kk) ht hm hB mm _ (kQ C ops ρ I) listed U ([], []) hlen ?_ ?_ hpw ?_ hI ⟨rfl, fun y hy => by cases hy⟩ (fun x hx => by simp) ?_
 · intro x hx
   exact h1 x.i ((k9 x.i).1 ⟨x, hx, rfl⟩)
 · intro j o ho hj
   have aJ : j < ops.size := (iE.1 ho).1
   simp only [zT, dP, List.mem_range, iZ] at h0
   have := h0 j aJ
   rw [ho, hj] at this
   rcases this with h | h | h
   · cases h
   · left; exact (k9 j).2 (by simpa using h)
   · right
     intro x hx
     simp only [dP] at h
     have := h x.i ((k9 x.i).1 ⟨x, hx, rfl⟩)
     rw [List.any_eq_true] at this
     obtain ⟨ed, he, hb⟩ := this
     simp only [bP] at hb
     exact ⟨ed, by simpa using he, hb.1, eo hb.2⟩
 · intro x hx
   obtain ⟨i, hi, a, v, hp, rfl⟩ := (ke _).1 hx
   unfold jN at hp
   rw [Option.bind_eq_some_iff] at hp
   obtain ⟨o, ho, hp⟩ := hp
   obtain ⟨q1, q2, q3⟩ := GW hp
   refine ⟨o, v, ho, q1, q2, q3, rfl, fun ed he hb => ?_⟩
   have := (h3 i hi).2.2
   rw [ho] at this
   simp only [BQ, dP, iZ] at this
   have := this ed (by simpa using he)
   rw [hb] at this
   simpa using this
 · intro jR dL AY
   have e : jR = eV listed I.l := by
    apply Array.ext (by rw [rZ, dL])
    intro j uC oh
    have k1 := AY j
    have k2 := uc I.l listed j
    rw [k9] at k1
    have k3 : jR.getD j true = false ↔ (eV listed I.l).getD j true = false := k1.trans k2.symm
    have e1 : jR.getD j true = jR[j] := by simp [uC]
    have e2 : (eV listed I.l).getD j true = (eV listed I.l)[j] := by simp [oh]
    rw [e1, e2] at k3
    cases h1 : jR[j] <;> cases h2 : (eV listed I.l)[j] <;> simp_all
   rw [e]
   refine hK1 ρ _ hDs ?_ hK
   intro b hb
   have cm : b ≠ id := fun e => hB (e ▸ hb)
   simp only [St.set, if_neg cm]
   exact hI b hb
def rq (P : Program) (ops : Array Oper) (cW : List (Bool × Nat)) (I : kU) (post : List (Bool × Nat)) : Bool :=
 (match mJ ops cW (Array.replicate ops.size false) with | some l => nE ops I l && gI ops post (eV l I.l) | none => false) && (Nat.beq (cW.length + (I.l.length + post.length)) ops.size && (match nY P I.t with | some (.i, _) => true | _ => false))
theorem bp.JK {nt id : Nat} {ro : Ro} {Q : Ex -> Env -> St -> Prop} {ρ : Env} {U : St} (cW : List (Bool × Nat)) (I : kU) (post : List (Bool × Nat)) (hm : C.P.follows .mixedOrders = true) (cA : km nt ops = true) (hp : rq C.P ops cW I post = true)
 (h : kn C mu ops B U (GU C ops B I (kn C mu ops B U (KQ Q) (uM Q) post)) (uM Q) cW ρ U) : bp C nt ro (.region id ops true) Q ρ U := by
 simp only [rq, bP] at hp
 obtain ⟨h1, h2, h3⟩ := hp
 have h2 := eo h2
 split at h3
 · rename_i e ht
   split at h1
   · rename_i l hl
     rw [bP] at h1
     refine bp.Bx mu (cU B U) hm cA ?_
     have := xZ (IU ht h1.1 (fun dv ae hD' yL hk => rn post _ dv ae h1.2 hD' (.inr yL) hk)) cW _ ρ U hl (Dn.none _ _) (fun _ _ => rfl) h
     rw [h2] at this
     exact this
   · cases h1
 · cases h3
end
end Go.Rip
namespace Go.Rip
open Go.RowKit
structure Row where
 d : Nat
 l : Nat
 a : Nat
def Gl : Option Nat -> Nat
 | some d => 2 ^ d
 | none => 0
def mU : List Nat -> Nat
 | [] => 0
 | d :: l => Nat.lor (2 ^ d) (mU l)
theorem da (k : Nat) : ∀ l : List Nat, (mU l).testBit k = true ↔ k ∈ l
 | [] => by simp [mU]
 | d :: l => by
   show (2 ^ d ||| mU l).testBit k = true ↔ _
   rw [Nat.testBit_or, Nat.testBit_two_pow, iZ, da k l]
   simp [eq_comm]
theorem gK (k : Nat) (o : Option Nat) : (Gl o).testBit k = true ↔ o = some k := by
 cases o with
 | none => simp [Gl]
 | some d => simp [Gl, Nat.testBit_two_pow]
def uN (o : Oper) : List Nat := (o.after.toList.filter fun e => Region.binds .any e).map (·.on)
def rowOf (ops : Array Oper) (o : Oper) : Row := ⟨Gl o.dst, mU (o.looksAt ops), mU (uN o)⟩
def kx (a b : Nat) : Bool := Nat.beq (Nat.land a b) a
def Gt (a b : Nat) : Bool := Nat.beq (Nat.land a b) 0
theorem o8 {a b : Nat} (h : kx a b = true) (k : Nat) (hk : a.testBit k = true) : b.testBit k = true := by
 have e : a &&& b = a := eo h
 have := congrArg (fun n => n.testBit k) e
 simp only [Nat.testBit_and, hk, Bool.true_and] at this
 exact this
theorem nw {a b : Nat} (h : Gt a b = true) (k : Nat) (hk : a.testBit k = true) : ¬ b.testBit k = true := by
 have e : a &&& b = 0 := eo h
 have := congrArg (fun n => n.testBit k) e
 simp only [Nat.testBit_and, hk, Bool.true_and, Nat.zero_testBit] at this
 simp [this]
def hasB (m i : Nat) : Bool := Nat.beq (Nat.land (Nat.shiftRight m i) 1) 1
theorem kP (m i : Nat) : hasB m i = m.testBit i := by
 have e : Nat.land (Nat.shiftRight m i) 1 = 1 &&& (m >>> i) := Nat.and_comm _ _
 unfold hasB Nat.testBit
 rw [e]
 cases h : Nat.beq (1 &&& m >>> i) 1 with
 | true => have := eo h; rw [this]; rfl
 | false =>
   have h1 : (1 &&& m >>> i) ≠ 1 := fun e => by rw [e] at h; simp at h
   have h2 : (1 &&& m >>> i) = 0 := by
    have : 1 &&& (m >>> i) = (m >>> i) % 2 := Nat.one_and_eq_mod_two _
    omega
   rw [h2]; rfl
def B0 (i : Nat) (x y : Row) : Bool := hasB y.a i || (Gt x.d y.l && (Gt x.d y.d && Gt y.d x.l))
def xF (done i : Nat) (x : Row) : List Row -> Nat -> Bool
 | [], _ => true
 | y :: r, j => (Nat.beq j i || (hasB done j || B0 i x y)) && xF done i x r (j + 1)
def xE (done i : Nat) : List Row -> Nat -> Bool
 | [], _ => true
 | y :: r, j => (Nat.beq j i || (hasB done j || !kx y.a done)) && xE done i r (j + 1)
def tQ (rows : List Row) (n : Nat) : List (Bool × Nat) -> Nat -> Bool
 | [], done => Nat.beq done (2 ^ n - 1)
 | (true, i) :: r, done => match rows[i]? with
   | some x => !hasB done i && (kx x.a done && (xF done i x rows 0 && tQ rows n r (Nat.lor done (2 ^ i))))
   | none => false
 | (false, i) :: r, done => match rows[i]? with
   | some x => !hasB done i && (kx x.a done && (xE done i rows 0 && tQ rows n r (Nat.lor done (2 ^ i))))
   | none => false
theorem uQ {done i : Nat} {x : Row} : ∀ {l : List Row} {j : Nat}, xF done i x l j = true -> ∀ k y, l[k]? = some y -> (j + k = i \/ done.testBit (j + k) = true \/ B0 i x y = true)
 | [], _, _, k, y, hy => by simp at hy
 | z :: r, j, h, k, y, hy => by
   simp only [xF, bP, iZ, kP] at h
   cases k with
   | zero =>
     simp at hy; subst hy
     rcases h.1 with h | h | h
     · exact .inl (eo h)
     · exact .inr (.inl h)
     · exact .inr (.inr h)
   | succ k =>
     have := uQ h.2 k y (by simpa using hy)
     rw [show j + (k + 1) = j + 1 + k by omega]; exact this
theorem uP {done i : Nat} : ∀ {l : List Row} {j : Nat}, xE done i l j = true -> ∀ k y, l[k]? = some y -> (j + k = i \/ done.testBit (j + k) = true \/ kx y.a done = false)
 | [], _, _, k, y, hy => by simp at hy
 | z :: r, j, h, k, y, hy => by
   simp only [xE, bP, iZ, kP, Bool.not_eq_true'] at h
   cases k with
   | zero =>
     simp at hy; subst hy
     rcases h.1 with h | h | h
     · exact .inl (eo h)
     · exact .inr (.inl h)
     · exact .inr (.inr h)
   | succ k =>
     have := uP h.2 k y (by simpa using hy)
     rw [show j + (k + 1) = j + 1 + k by omega]; exact this
def fK (n : Nat) (listed : Array Bool) (done : Nat) : Prop := listed.size = n /\ ∀ k, k < n -> listed[k]? = some (done.testBit k)
section
variable {ops : Array Oper} {listed : Array Bool} {done : Nat}
theorem fK.get (h : fK ops.size listed done) {k : Nat} (hk : k < ops.size) (d : Bool) : listed.getD k d = done.testBit k := by
 have := h.2 k hk
 simp [this]
theorem fK.out (h : fK ops.size listed done) {k : Nat} (hk : ¬ k < ops.size) (d : Bool) : listed.getD k d = d := by
 have : listed[k]? = none := tX (by rw [h.1]; omega)
 simp [this]
theorem fK.set (h : fK ops.size listed done) (i : Nat) : fK ops.size (listed.setIfInBounds i true) (Nat.lor done (2 ^ i)) := by
 refine ⟨by simp [h.1], fun k hk => ?_⟩
 show _ = some ((done ||| 2 ^ i).testBit k)
 rw [Nat.testBit_or, Nat.testBit_two_pow]
 by_cases e : i = k
 · subst e
   have : i < listed.size := by rw [h.1]; exact hk
   simp [Array.getElem?_setIfInBounds, this]
 · rw [Array.getElem?_setIfInBounds_ne e, h.2 k hk]
   simp [e]
theorem ub {i : Nat} {x : Row} (h : (ops.toList.map (rowOf ops))[i]? = some x) : ∃ o, ops[i]? = some o /\ x = rowOf ops o := by
 rw [ko, mv] at h
 obtain ⟨o, ho, e⟩ := h
 exact ⟨o, by simpa using ho, e.symm⟩
theorem pP {o : Oper} {k : Nat} : k ∈ uN o ↔ ∃ e ∈ o.after, Region.binds .any e = true /\ e.on = k := by
 simp [uN, and_assoc]
theorem nH (h : fK ops.size listed done) {j : Nat} {o : Oper} (ho : ops[j]? = some o) : j ∈ Region.ready .any ops listed ↔ done.testBit j = false /\ ∀ k, k ∈ uN o -> k < ops.size /\ done.testBit k = true := by
 have hj : j < ops.size := (iE.1 ho).1
 rw [mem_ready, h.get hj]
 refine and_congr_right fun _ => ⟨?_, ?_⟩
 · rintro ⟨o', PN, bq⟩ k hk
   rw [ho] at PN; cases PN
   obtain ⟨e, he, hb, rfl⟩ := pP.1 hk
   have := bq e he hb
   by_cases hk : e.on < ops.size
   · rw [h.get hk] at this; exact ⟨hk, this⟩
   · rw [h.out hk] at this; cases this
 · intro bq
   refine ⟨o, ho, fun e he hb => ?_⟩
   obtain ⟨hk, ht⟩ := bq e.on (pP.2 ⟨e, he, hb, rfl⟩)
   rw [h.get hk]; exact ht
theorem BK {i : Nat} {o : Oper} (hm : fK ops.size listed done) (ho : ops[i]? = some o) (h3 : xF done i (rowOf ops o) (ops.toList.map (rowOf ops)) 0 = true) : Region.free .any ops listed i = true := by
 simp only [Region.free, ho, dP, List.mem_range, iZ]
 intro j hj
 obtain ⟨oj, nC⟩ : ∃ oj, ops[j]? = some oj := ⟨ops[j], by simp [hj]⟩
 rw [nC]
 have hy : (ops.toList.map (rowOf ops))[j]? = some (rowOf ops oj) := by
  rw [ko]; simp [nC]
 rcases uQ h3 j _ hy with e | e | e
 · left; left; simp at e; simp [e]
 · left; right; rw [hm.get hj]; simpa using e
 · right
   simp only [B0, iZ, bP, kP] at e
   show ((oj.after.any fun e => Region.binds .any e && e.on == i) || o.apart ops oj) = true
   rw [iZ]
   rcases e with e | ⟨e1, e2, e3⟩
   · left
     have := (da i _).1 e
     obtain ⟨ed, he, hb, yU⟩ := pP.1 this
     rw [Array.any_eq_true']
     exact ⟨ed, he, by simp [hb, yU]⟩
   · right
     have k1 : ∀ d, o.dst = some d -> d ∉ oj.looksAt ops := fun d hd hm => nw e1 d ((gK d _).2 hd) ((da d _).2 hm)
     have k2 : ∀ d, o.dst = some d -> oj.dst ≠ some d := fun d hd hm => nw e2 d ((gK d _).2 hd) ((gK d _).2 hm)
     have k3 : ∀ d, oj.dst = some d -> d ∉ o.looksAt ops := fun d hd hm => nw e3 d ((gK d _).2 hd) ((da d _).2 hm)
     unfold Oper.apart
     cases w8 : o.dst <;> cases uA : oj.dst <;> simp only [bP, Bool.not_eq_true', bne_iff_ne, ne_eq, Bool.and_self, and_self, true_and, and_true]
     · rename_i d; simpa using k3 d uA
     · rename_i d; exact ⟨by simpa using k1 d w8, by simp⟩
     · rename_i d d'
       refine ⟨⟨by simpa using k1 d w8, fun e => k2 d w8 (by rw [uA]; exact e)⟩, by simpa using k3 d' uA⟩
theorem vQ {i : Nat} {o : Oper} (hm : fK ops.size listed done) (ho : ops[i]? = some o) (h1 : done.testBit i = false) (sub : ∀ k, k ∈ uN o -> k < ops.size /\ done.testBit k = true) (h3 : xE done i (ops.toList.map (rowOf ops)) 0 = true) : Region.ready .any ops listed = [i] := by
 have key : ∀ j, j ∈ Region.ready .any ops listed -> j = i := fun j hj => by
  obtain ⟨h0, oj, nC, _⟩ := mem_ready.1 hj
  have hr := (nH hm nC).1 hj
  have CQ : j < ops.size := (iE.1 nC).1
  have hy : (ops.toList.map (rowOf ops))[j]? = some (rowOf ops oj) := by
   rw [ko]; simp [nC]
  rcases uP h3 j _ hy with e | e | e
  · simpa using e
  · rw [cq] at e; rw [hr.1] at e; cases e
  · exfalso
    have : kx (rowOf ops oj).a done = true := by
     unfold kx
     have e2 : (rowOf ops oj).a &&& done = (rowOf ops oj).a := by
      apply Nat.eq_of_testBit_eq
      intro k
      rw [Nat.testBit_and]
      cases hk : (rowOf ops oj).a.testBit k with
      | false => rfl
      | true => rw [(hr.2 k ((da k _).1 hk)).2]; rfl
     show Nat.beq ((rowOf ops oj).a &&& done) _ = true
     rw [e2]; simp
    rw [this] at e; cases e
 have ke := (nH hm ho).2 ⟨h1, sub⟩
 have hnd : (Region.ready .any ops listed).Nodup := (List.Pairwise.filter _ List.nodup_range)
 match hl : Region.ready .any ops listed with
 | [] => rw [hl] at ke; cases ke
 | [x] => rw [hl] at key; rw [key x (by simp)]
 | x :: y :: zs =>
   rw [hl] at key hnd
   have e1 := key x (by simp)
   have e2 := key y (by simp)
   subst e1; subst e2
   simp at hnd
theorem tR : ∀ (cW : List (Bool × Nat)) (listed : Array Bool) (done : Nat), fK ops.size listed done -> done < 2 ^ ops.size -> tQ (ops.toList.map (rowOf ops)) ops.size cW done = true -> gI ops cW listed = true
 | [], listed, done, hm, aJ, h => by
   have e : done = 2 ^ ops.size - 1 := eo h
   simp only [gI, List.isEmpty_iff]
   rw [List.eq_nil_iff_forall_not_mem]
   intro j hj
   obtain ⟨h0, o, ho, _⟩ := mem_ready.1 hj
   have CQ : j < ops.size := (iE.1 ho).1
   rw [hm.get CQ, e, Nat.testBit_two_pow_sub_one] at h0
   simp [CQ] at h0
 | (true, i) :: r, listed, done, hm, aJ, h => by
   simp only [tQ] at h
   split at h
   · rename_i x hx
     obtain ⟨o, ho, rfl⟩ := ub hx
     simp only [bP, Bool.not_eq_true', kP] at h
     obtain ⟨h1, h2, h3, h4⟩ := h
     have hi : i < ops.size := (iE.1 ho).1
     have mi : Nat.lor done (2 ^ i) < 2 ^ ops.size := Nat.or_lt_two_pow aJ (Nat.pow_lt_pow_right (by omega) hi)
     have sub : ∀ k, k ∈ uN o -> k < ops.size /\ done.testBit k = true := fun k hk => by
      have := o8 h2 k ((da k _).2 hk)
      refine ⟨?_, this⟩
      rcases eG k ops.size with h | h
      · exact h
      · rw [Nat.testBit_lt_two_pow (Nat.lt_of_lt_of_le aJ (Nat.pow_le_pow_right (by omega) h))] at this; cases this
     simp only [gI, bP]
     refine ⟨⟨?_, ?_⟩, tR r _ _ (hm.set i) mi h4⟩
     · simp only [List.contains_iff_mem]
       exact (nH hm ho).2 ⟨h1, sub⟩
     · simp only [Region.free, ho, dP, List.mem_range, iZ]
       intro j hj
       obtain ⟨oj, nC⟩ : ∃ oj, ops[j]? = some oj := ⟨ops[j], by simp [hj]⟩
       rw [nC]
       have hy : (ops.toList.map (rowOf ops))[j]? = some (rowOf ops oj) := by
        rw [ko]; simp [nC]
       rcases uQ h3 j _ hy with e | e | e
       · left; left; simp at e; simp [e]
       · left; right; rw [hm.get hj]; simpa using e
       · right
         simp only [B0, iZ, bP, kP] at e
         show ((oj.after.any fun e => Region.binds .any e && e.on == i) || o.apart ops oj) = true
         rw [iZ]
         rcases e with e | ⟨e1, e2, e3⟩
         · left
           have := (da i _).1 e
           obtain ⟨ed, he, hb, yU⟩ := pP.1 this
           rw [Array.any_eq_true']
           exact ⟨ed, he, by simp [hb, yU]⟩
         · right
           have k1 : ∀ d, o.dst = some d -> d ∉ oj.looksAt ops := fun d hd hm => nw e1 d ((gK d _).2 hd) ((da d _).2 hm)
           have k2 : ∀ d, o.dst = some d -> oj.dst ≠ some d := fun d hd hm => nw e2 d ((gK d _).2 hd) ((gK d _).2 hm)
           have k3 : ∀ d, oj.dst = some d -> d ∉ o.looksAt ops := fun d hd hm => nw e3 d ((gK d _).2 hd) ((da d _).2 hm)
           unfold Oper.apart
           cases w8 : o.dst <;> cases uA : oj.dst <;> simp only [bP, Bool.not_eq_true', bne_iff_ne, ne_eq, Bool.and_self, and_self, true_and, and_true]
           · rename_i d; simpa using k3 d uA
           · rename_i d; exact ⟨by simpa using k1 d w8, by simp⟩
           · rename_i d d'
             refine ⟨⟨by simpa using k1 d w8, fun e => k2 d w8 (by rw [uA]; exact e)⟩, by simpa using k3 d' uA⟩
   · cases h
 | (false, i) :: r, listed, done, hm, aJ, h => by
   simp only [tQ] at h
   split at h
   · rename_i x hx
     obtain ⟨o, ho, rfl⟩ := ub hx
     simp only [bP, Bool.not_eq_true', kP] at h
     obtain ⟨h1, h2, h3, h4⟩ := h
     have hi : i < ops.size := (iE.1 ho).1
     have mi : Nat.lor done (2 ^ i) < 2 ^ ops.size := Nat.or_lt_two_pow aJ (Nat.pow_lt_pow_right (by omega) hi)
     have sub : ∀ k, k ∈ uN o -> k < ops.size /\ done.testBit k = true := fun k hk => by
      have := o8 h2 k ((da k _).2 hk)
      refine ⟨?_, this⟩
      rcases eG k ops.size with h | h
      · exact h
      · rw [Nat.testBit_lt_two_pow (Nat.lt_of_lt_of_le aJ (Nat.pow_le_pow_right (by omega) h))] at this; cases this
     simp only [gI, bP, beq_iff_eq]
     refine ⟨?_, tR r _ _ (hm.set i) mi h4⟩
     have key : ∀ j, j ∈ Region.ready .any ops listed -> j = i := fun j hj => by
      obtain ⟨h0, oj, nC, _⟩ := mem_ready.1 hj
      have hr := (nH hm nC).1 hj
      have CQ : j < ops.size := (iE.1 nC).1
      have hy : (ops.toList.map (rowOf ops))[j]? = some (rowOf ops oj) := by
       rw [ko]; simp [nC]
      rcases uP h3 j _ hy with e | e | e
      · simpa using e
      · rw [cq] at e; rw [hr.1] at e; cases e
      · exfalso
        have : kx (rowOf ops oj).a done = true := by
         unfold kx
         have e2 : (rowOf ops oj).a &&& done = (rowOf ops oj).a := by
          apply Nat.eq_of_testBit_eq
          intro k
          rw [Nat.testBit_and]
          cases hk : (rowOf ops oj).a.testBit k with
          | false => rfl
          | true => rw [(hr.2 k ((da k _).1 hk)).2]; rfl
         show Nat.beq ((rowOf ops oj).a &&& done) _ = true
         rw [e2]; simp
        rw [this] at e; cases e
     have ke := (nH hm ho).2 ⟨h1, sub⟩
     have hnd : (Region.ready .any ops listed).Nodup := (List.Pairwise.filter _ List.nodup_range)
     match hl : Region.ready .any ops listed with
     | [] => rw [hl] at ke; cases ke
     | [x] => rw [hl] at key; rw [key x (by simp)]
     | x :: y :: zs =>
       rw [hl] at key hnd
       have e1 := key x (by simp)
       have e2 := key y (by simp)
       subst e1; subst e2
       simp at hnd
   · cases h
end
def zn : List Row -> List Row -> Bool
 | [], [] => true
 | x :: xs, y :: ys => Nat.beq x.d y.d && (Nat.beq x.l y.l && (Nat.beq x.a y.a && zn xs ys))
 | _, _ => false
theorem yc : ∀ {a b : List Row}, zn a b = true -> a = b
 | [], [], _ => rfl
 | x :: xs, y :: ys, h => by
   simp only [zn, bP] at h
   obtain ⟨h1, h2, h3, h4⟩ := h
   obtain ⟨a, b, c⟩ := x
   obtain ⟨a', b', c'⟩ := y
   have e1 : a = a' := eo h1
   have e2 : b = b' := eo h2
   have e3 : c = c' := eo h3
   rw [e1, e2, e3, yc h4]
 | [], _ :: _, h => by cases h
 | _ :: _, [], h => by cases h
structure Pl where
 steps : List (Bool × Nat)
 rows : List Row
def Hm (ops : Array Oper) (p : Pl) : Bool := zn (ops.toList.map (rowOf ops)) p.rows && (tQ p.rows ops.size p.steps 0 && Nat.beq p.steps.length ops.size)
theorem FZ {ops : Array Oper} {p : Pl} (h : Hm ops p = true) : (gI ops p.steps (Array.replicate ops.size false) && (p.steps.length == ops.size)) = true := by
 simp only [Hm, bP] at h
 obtain ⟨h1, h2, h3⟩ := h
 rw [<- yc h1] at h2
 simp only [bP, beq_iff_eq]
 refine ⟨tR _ _ 0 ⟨by simp, fun k hk => by simp [hk]⟩ (Nat.two_pow_pos _) h2, eo h3⟩
def nG (ops : Array Oper) (rows : List Row) : List (Bool × Nat) -> Nat -> Option Nat
 | [], done => some done
 | (true, i) :: r, done => match rows[i]? with
   | some x => cond (!hasB done i && (kx x.a done && xF done i x rows 0)) (nG ops rows r (Nat.lor done (2 ^ i))) none
   | none => none
 | (false, i) :: r, done => match rows[i]? with
   | some x => cond (!hasB done i && (kx x.a done && (xE done i rows 0 && !jh ops i))) (nG ops rows r (Nat.lor done (2 ^ i))) none
   | none => none
section
variable {ops : Array Oper}
theorem tS : ∀ (cW : List (Bool × Nat)) (listed : Array Bool) (done dn : Nat), fK ops.size listed done -> done < 2 ^ ops.size -> nG ops (ops.toList.map (rowOf ops)) cW done = some dn ->
 ∃ l, mJ ops cW listed = some l /\ fK ops.size l dn /\ dn < 2 ^ ops.size
 | [], listed, done, dn, hm, aJ, h => by
   simp only [nG, gq] at h
   subst h
   exact ⟨listed, rfl, hm, aJ⟩
 | (b, i) :: r, listed, done, dn, hm, aJ, h => by
   obtain ⟨x, hx⟩ : ∃ x, (ops.toList.map (rowOf ops))[i]? = some x := by
    cases b <;> simp only [nG] at h <;> split at h <;> first | exact ⟨_, by assumption⟩ | cases h
   obtain ⟨o, ho, rfl⟩ := ub hx
   have hi : i < ops.size := (iE.1 ho).1
   have mi : Nat.lor done (2 ^ i) < 2 ^ ops.size := Nat.or_lt_two_pow aJ (Nat.pow_lt_pow_right (by omega) hi)
   have sub : kx (rowOf ops o).a done = true -> ∀ k, k ∈ uN o -> k < ops.size /\ done.testBit k = true := fun h2 k hk => by
    have := o8 h2 k ((da k _).2 hk)
    refine ⟨?_, this⟩
    rcases eG k ops.size with h | h
    · exact h
    · rw [Nat.testBit_lt_two_pow (Nat.lt_of_lt_of_le aJ (Nat.pow_le_pow_right (by omega) h))] at this; cases this
   cases b with
   | true =>
     simp only [nG, hx] at h
     cases hc : (!hasB done i && (kx (rowOf ops o).a done && xF done i (rowOf ops o) (ops.toList.map (rowOf ops)) 0)) with
     | false => rw [hc] at h; cases h
     | true =>
       rw [hc, cond_true] at h
       simp only [bP, Bool.not_eq_true', kP] at hc
       obtain ⟨l, k1, k2, k3⟩ := tS r _ _ dn (hm.set i) mi h
       refine ⟨l, ?_, k2, k3⟩
       have C5 : (Region.ready .any ops listed).contains i = true := by
        simp only [List.contains_iff_mem]; exact (nH hm ho).2 ⟨hc.1, sub hc.2.1⟩
       have BV : Region.free .any ops listed i = true := BK hm ho hc.2.2
       simp only [mJ, C5, BV, Bool.and_self, cond_true]
       exact k1
   | false =>
     simp only [nG, hx] at h
     cases hc : (!hasB done i && (kx (rowOf ops o).a done && (xE done i (ops.toList.map (rowOf ops)) 0 && !jh ops i))) with
     | false => rw [hc] at h; cases h
     | true =>
       rw [hc, cond_true] at h
       simp only [bP, Bool.not_eq_true', kP] at hc
       obtain ⟨l, k1, k2, k3⟩ := tS r _ _ dn (hm.set i) mi h
       refine ⟨l, ?_, k2, k3⟩
       have rO : Region.ready .any ops listed = [i] := vQ hm ho hc.1 (sub hc.2.1) hc.2.2.1
       have IF : jh ops i = false := by simpa using hc.2.2.2
       simp only [mJ, rO, IF, du, cZ, Bool.and_self, cond_true]
       exact k1
def Gj (im : Nat) (done : Nat) : List Row -> Nat -> Bool
 | [], _ => true
 | y :: r, j => (hasB done j || (hasB im j || kx im y.a)) && Gj im done r (j + 1)
def I7 (ops : Array Oper) (rows : List Row) (I : kU) (done : Nat) : Bool := I.l.all fun i => !hasB done i && ((jN ops I i).isSome && (match rows[i]? with | some x => kx x.a done | none => false))
def increasing : List Nat -> Bool
 | a :: b :: l => Nat.blt a b && increasing (b :: l)
 | _ => true
def oQ : List Int -> Bool
 | a :: b :: l => decide (a < b) && oQ (b :: l)
 | _ => true
def x5 (P : Program) (ops : Array Oper) (rows : List Row) (cW : List (Bool × Nat)) (I : kU) (post : List (Bool × Nat)) : Bool :=
 zn (ops.toList.map (rowOf ops)) rows && ((match nG ops rows cW 0 with
  | some dn => Gj (mU I.l) dn rows 0 && (I7 ops rows I dn && tQ rows ops.size post (Nat.lor dn (mU I.l)))
  | none => false) && (increasing I.l && (oQ (I.l.map fun i => ((jN ops I i).map (·.1)).getD 0) && (Nat.beq (cW.length + (I.l.length + post.length)) ops.size && (match nY P I.t with | some (.i, _) => true | _ => false)))))
theorem uE : ∀ l : List Nat, increasing l = true -> l.Pairwise (· < ·)
 | [], _ => List.Pairwise.nil
 | [a], _ => List.pairwise_singleton ..
 | a :: b :: l, h => by
   simp only [increasing, bP] at h
   have yM : a < b := Nat.le_of_ble_eq_true h.1
   have ih := uE (b :: l) h.2
   refine List.Pairwise.cons (fun y hy => ?_) ih
   rcases eA.1 hy with rfl | hy
   · exact yM
   · exact Nat.lt_trans yM ((List.pairwise_cons.1 ih).1 y hy)
theorem sI : ∀ l : List Int, oQ l = true -> l.Pairwise (· < ·)
 | [], _ => List.Pairwise.nil
 | [a], _ => List.pairwise_singleton ..
 | a :: b :: l, h => by
   simp only [oQ, bP, cL] at h
   have ih := sI (b :: l) h.2
   refine List.Pairwise.cons (fun y hy => ?_) ih
   rcases eA.1 hy with rfl | hy
   · exact h.1
   · exact Int.lt_trans h.1 ((List.pairwise_cons.1 ih).1 y hy)
theorem AI {im done : Nat} : ∀ {l : List Row} {j : Nat}, Gj im done l j = true -> ∀ k y, l[k]? = some y -> (done.testBit (j + k) = true \/ im.testBit (j + k) = true \/ kx im y.a = true)
 | [], _, _, k, y, hy => by simp at hy
 | z :: r, j, h, k, y, hy => by
   simp only [Gj, bP, iZ, kP] at h
   cases k with
   | zero => simp at hy; subst hy; exact h.1
   | succ k =>
     have := AI h.2 k y (by simpa using hy)
     rw [show j + (k + 1) = j + 1 + k by omega]; exact this
theorem fK.eV {n : Nat} : ∀ (l : List Nat) (listed : Array Bool) (done : Nat), fK ops.size listed done -> fK ops.size (Go.Rip.eV listed l) (Nat.lor done (mU l))
 | [], listed, done, h => by
   show fK ops.size listed (done ||| 0)
   rw [Nat.or_zero]; exact h
 | i :: l, listed, done, h => by
   have := fK.eV (n := n) l _ _ (h.set i)
   show fK ops.size (Go.Rip.eV (listed.setIfInBounds i true) l) (done ||| (2 ^ i ||| mU l))
   rw [<- Nat.or_assoc]; exact this
theorem EU {P : Program} {rows : List Row} {cW : List (Bool × Nat)} {I : kU} {post : List (Bool × Nat)} (h : x5 P ops rows cW I post = true) : rq P ops cW I post = true := by
 simp only [x5, bP] at h
 obtain ⟨h1, h2, h3, h4, h5, h6⟩ := h
 rw [<- yc h1] at h2
 split at h2
 · rename_i dn hd
   simp only [bP] at h2
   obtain ⟨b1, b2, b3⟩ := h2
   obtain ⟨l, k1, k2, k3⟩ := tS cW (Array.replicate ops.size false) 0 dn ⟨by simp, fun k hk => by simp [hk]⟩ (Nat.two_pow_pos _) hd
   have aaj := uE _ h3
   have XZ := sI _ h4
   simp only [I7, dP, bP, Bool.not_eq_true', kP] at b2
   have tu : ∀ i ∈ I.l, ∃ o, ops[i]? = some o /\ kx (rowOf ops o).a dn = true := fun i hi => by
    have := (b2 i hi).2.2
    split at this
    · rename_i x hx
      obtain ⟨o, ho, rfl⟩ := ub hx
      exact ⟨o, ho, this⟩
    · cases this
   have aJ : ∀ i ∈ I.l, i < ops.size := fun i hi => by
    obtain ⟨o, ho, _⟩ := tu i hi
    exact (iE.1 ho).1
   have him : mU I.l < 2 ^ ops.size := by
    have : ∀ l : List Nat, (∀ i ∈ l, i < ops.size) -> mU l < 2 ^ ops.size := fun l => by
     induction l with
     | nil => intro _; exact Nat.two_pow_pos _
     | cons i l ih => intro hh; exact Nat.or_lt_two_pow (Nat.pow_lt_pow_right (by omega) (hh i (by simp))) (ih fun j hj => hh j (by simp [hj]))
    exact this _ aJ
   have Sy : ∀ {o : Oper} {m : Nat}, m < 2 ^ ops.size -> kx (rowOf ops o).a m = true -> ∀ e ∈ o.after, Region.binds .any e = true -> m.testBit e.on = true := fun {o m} IC hs e he hb =>
    o8 hs e.on ((da _ _).2 (pP.2 ⟨e, he, hb, rfl⟩))
   simp only [rq, k1, bP]
   refine ⟨⟨?_, tR post _ _ (fK.eV (n := 0) I.l l dn k2) (Nat.or_lt_two_pow k3 him) b3⟩, h5, h6⟩
   simp only [nE, zT, bP, dP, List.mem_range, iZ, cL, Bool.not_eq_true']
   refine ⟨fun j hj => ?_, fun i hi => ?_, ?_, fun i hi => ⟨?_, (b2 i hi).2.1, ?_⟩, aaj.imp (fun h => Nat.ne_of_lt h), XZ.imp (fun h => Int.ne_of_lt h)⟩
   · obtain ⟨o, ho⟩ : ∃ o, ops[j]? = some o := ⟨ops[j], by simp [hj]⟩
     have hy : (ops.toList.map (rowOf ops))[j]? = some (rowOf ops o) := by rw [ko]; simp [ho]
     rcases AI b1 j _ hy with h | h | h
     · left; rw [k2.get hj]; simpa using h
     · right; left
       have := (da _ _).1 h
       simpa using this
     · right; right
       rw [ho]
       show (I.l.all fun i => o.after.toList.any fun e => Region.binds .any e && Nat.beq e.on i) = true
       rw [dP]
       intro i hi
       have := o8 h i ((da _ _).2 hi)
       obtain ⟨e, he, hb, yU⟩ := pP.1 ((da _ _).1 this)
       rw [List.any_eq_true]
       exact ⟨e, by simpa using he, by simp [hb, yU]⟩
   · rw [k2.get (aJ i hi)]; exact (b2 i hi).1
   · rw [k2.1]; simp
   · show Nat.ble (i + 1) ops.size = true
     exact Nat.ble_eq_true_of_le (aJ i hi)
   · obtain ⟨o, ho, hs⟩ := tu i hi
     rw [ho]
     simp only [BQ, dP, iZ, Bool.not_eq_true']
     intro e he
     cases hb : Region.binds .any e with
     | false => exact .inl rfl
     | true =>
       right
       have ht := Sy k3 hs e (by simpa using he) hb
       have mi : e.on < ops.size := by
        rcases eG e.on ops.size with h | h
        · exact h
        · rw [Nat.testBit_lt_two_pow (Nat.lt_of_lt_of_le k3 (Nat.pow_le_pow_right (by omega) h))] at ht; cases ht
       rw [k2.get mi]; exact ht
 · cases h2
end
end Go.Rip
namespace Go.Rip
open Go.RowKit
inductive T (α : Type) where
 | e
 | n (l : T α) (v : Option α) (r : T α)
theorem vB {a b : Nat} (h : a ≠ b) : Nat.beq a b = false := by
 cases hb : Nat.beq a b with
 | false => rfl
 | true => exact absurd (eo hb) h
theorem Hf {a b : Nat} (h : a = b) : Nat.beq a b = true := by subst h; exact Nat.beq_refl a
namespace T
variable {α : Type}
def get : T α -> Nat -> Option α
 | .e, _ => none
 | .n l v r, i => cond (Nat.beq i 0) v (cond (Nat.beq (i % 2) 1) (l.get (i / 2)) (r.get (i / 2 - 1)))
def ud : Nat -> T α -> Nat -> Option α -> T α
 | 0, t, _, _ => t
 | f + 1, .e, i, v => cond (Nat.beq i 0) (.n .e v .e) (cond (Nat.beq (i % 2) 1) (.n (ud f .e (i / 2) v) none .e) (.n .e none (ud f .e (i / 2 - 1) v)))
 | f + 1, .n l w r, i, v => cond (Nat.beq i 0) (.n l v r) (cond (Nat.beq (i % 2) 1) (.n (ud f l (i / 2) v) w r) (.n l w (ud f r (i / 2 - 1) v)))
def set (t : T α) (i : Nat) (v : Option α) : T α := ud (i + 1) t i v
theorem Ns : ∀ (f : Nat) (t : T α) (i j : Nat) (v : Option α), i < f -> (ud f t i v).get j = if j = i then v else t.get j := by
 intro f
 induction f with
 | zero => intro t i j v h; omega
 | succ f ih =>
   intro t i j v h
   have key : ∀ (l r : T α) (w : Option α), (cond (Nat.beq i 0) (.n l v r) (cond (Nat.beq (i % 2) 1) (.n (ud f l (i / 2) v) w r) (.n l w (ud f r (i / 2 - 1) v))) : T α).get j = if j = i then v else (T.n l w r).get j := fun l r w => by
    by_cases hi : i = 0
    · subst hi
      simp only [Nat.beq_refl, cond_true, get]
      by_cases hj : j = 0
      · subst hj; simp
      · have : Nat.beq j 0 = false := vB hj
        simp [this, hj]
    · have AW : Nat.beq i 0 = false := vB hi
      rw [AW, cond_false]
      by_cases h1 : i % 2 = 1
      · have hb : Nat.beq (i % 2) 1 = true := Hf h1
        rw [hb, cond_true]
        simp only [get]
        by_cases hj : j = 0
        · subst hj
          have : (0 : Nat) ≠ i := fun e => hi e.symm
          simp [this]
        · have AX : Nat.beq j 0 = false := vB hj
          rw [AX, cond_false, cond_false]
          by_cases uC : j % 2 = 1
          · have CR : Nat.beq (j % 2) 1 = true := Hf uC
            rw [CR, cond_true, cond_true, ih _ _ _ _ (by omega)]
            by_cases e : j = i
            · subst e; simp
            · rw [if_neg (by omega), if_neg e]
          · have CR : Nat.beq (j % 2) 1 = false := vB uC
            rw [CR, cond_false, cond_false, if_neg (by omega)]
      · have hb : Nat.beq (i % 2) 1 = false := vB h1
        rw [hb, cond_false]
        simp only [get]
        by_cases hj : j = 0
        · subst hj
          have : (0 : Nat) ≠ i := fun e => hi e.symm
          simp [this]
        · have AX : Nat.beq j 0 = false := vB hj
          rw [AX, cond_false, cond_false]
          by_cases uC : j % 2 = 1
          · have CR : Nat.beq (j % 2) 1 = true := Hf uC
            rw [CR, cond_true, cond_true, if_neg (by omega)]
          · have CR : Nat.beq (j % 2) 1 = false := vB uC
            rw [CR, cond_false, cond_false, ih _ _ _ _ (by omega)]
            by_cases e : j = i
            · subst e; simp
            · rw [if_neg (by omega), if_neg e]
   cases t with
   | n l w r => exact key l r w
   | e =>
     have := key .e .e none
     simp only [ud]
     rw [this]
     congr 1
     simp only [get]
     cases Nat.beq j 0 <;> cases Nat.beq (j % 2) 1 <;> rfl
theorem pS (t : T α) (i j : Nat) (v : Option α) : (t.set i v).get j = if j = i then v else t.get j := Ns _ _ _ _ _ (by omega)
def FR : List α -> Nat -> T α -> T α
 | [], _, t => t
 | x :: xs, i, t => FR xs (i + 1) (t.set i (some x))
theorem Fp : ∀ (l : List α) (i : Nat) (t : T α) (j : Nat), (FR l i t).get j = if i <= j /\ j < i + l.length then l[j - i]? else t.get j
 | [], i, t, j => by simp [FR]; omega
 | x :: xs, i, t, j => by
   simp only [FR]
   rw [Fp xs (i + 1) _ j, pS]
   by_cases h1 : i + 1 <= j /\ j < i + 1 + xs.length
   · rw [if_pos h1, if_pos (by simp; omega)]
     have : j - i = (j - (i + 1)) + 1 := by omega
     rw [this]; simp
   · rw [if_neg h1]
     by_cases h2 : j = i
     · subst h2; simp
     · rw [if_neg h2, if_neg (by simp; omega)]
end T
def ep (t : T AV) : Env := ⟨fun i => (t.get i).getD (.aO [])⟩
theorem H4 (t : T AV) (d : Nat) (v : AV) : ep (t.set d (some v)) = (ep t).put d v := by
 simp only [ep, Env.put, Env.mk.injEq]
 funext i
 rw [T.pS]
 split <;> rfl
def vI (t : T AV) : Option Nat -> AV -> T AV
 | some d, v => t.set d (some v)
 | none, _ => t
theorem nx (t : T AV) (d : Option Nat) (v : AV) : ep (vI t d v) = (ep t).dT d v := by
 cases d with
 | none => rfl
 | some d => exact H4 t d v
theorem Gu (l : List AV) : ep (T.FR l 0 .e) = Env.gG l := by
 simp only [ep, Env.gG, Env.mk.injEq]
 funext i
 rw [T.Fp]
 by_cases h : i < l.length
 · rw [if_pos (by omega)]; simp [rW]
 · rw [if_neg (by omega)]
   simp [T.get, rW, oD (Nat.le_of_not_lt h)]
structure ES where
 live : T Live
 n : Nat
def br (e : ES) : St := ⟨fun b => e.live.get b, some e.n⟩
def ES.set (e : ES) (b : Nat) (x : Live) : ES := ⟨e.live.set b (some x), e.n⟩
def ES.del (e : ES) (b : Nat) : ES := ⟨e.live.set b none, e.n⟩
def ES.pc (e : ES) : Option Nat -> ES
 | some b => e.del b
 | none => e
def ES.new (e : ES) (x : Live) : ES := ⟨e.live.set e.n (some x), e.n + 1⟩
theorem kr (e : ES) (b : Nat) (x : Live) : br (e.set b x) = (br e).set b x := by
 simp only [br, ES.set, St.set, St.mk.injEq, and_true]
 funext y; rw [T.pS]
theorem yf (e : ES) (b : Nat) : br (e.del b) = (br e).del b := by
 simp only [br, ES.del, St.del, St.mk.injEq, and_true]
 funext y; rw [T.pS]
theorem Mx (e : ES) (b : Option Nat) : br (e.pc b) = (br e).pc b := by
 cases b with
 | none => rfl
 | some b => exact yf e b
theorem oH (e : ES) (x : Live) : br (e.new x) = (br e).new e.n x := by
 simp only [br, ES.new, St.new, St.mk.injEq, Option.map_some, and_true]
 funext y; rw [T.pS]
def Ni : Fn -> Fn -> Bool
 | .func a, .func b => Nat.beq a b
 | _, _ => false
theorem Rr {a b : Fn} (h : Ni a b = true) : a = b := by
 cases a <;> cases b <;> simp only [Ni, bm] at h
 rw [eo h]
def Gv : iW -> iW -> Bool
 | .full, .full => true
 | .own a, .own b => Nat.beq a b
 | .hC, .hC => true
 | _, _ => false
theorem Nh {a b : iW} (h : Gv a b = true) : a = b := by
 cases a <;> cases b <;> simp only [Gv, bm] at h <;> first
  | rfl
  | rw [eo h]
mutual
def gw : AV -> AV -> Bool
 | .bool a, .bool b => a == b
 | .int k a, .int k' b => decide (k = k') && decide (a = b)
 | .str a, .str b => decide (a = b)
 | .a7, .a7 | .ax, .ax | .jS, .jS | .cX, .cX | .cI, .cI => true
 | .box a i, .box b j => Nat.beq a b && Nat.beq i j
 | .cj l, .cj l' => mg l l'
 | .vec n c l, .vec n' c' l' => Nat.beq n n' && Gv c c' && mg l l'
 | .ms b o n z e, .ms b' o' n' z' e' => Nat.beq b b' && Nat.beq o o' && Nat.beq n n' && Nat.beq z z' && Nat.beq e e'
 | .mp a, .mp b => Nat.beq a b
 | .eL ks vs, .eL ks' vs' => mg ks ks' && mg vs vs'
 | .func f a b, .func f' a' b' => Ni f f' && mg a a' && mg b b'
 | .iface t v, .iface t' v' => Nat.beq t t' && gw v v'
 | .agg l, .agg l' => mg l l'
 | .aO l, .aO l' => mg l l'
 | .o9 a, .o9 b => Nat.beq a b
 | .it a, .it b => Nat.beq a b
 | .any, .any => true
 | _, _ => false
def mg : List AV -> List AV -> Bool
 | [], [] => true
 | x :: xs, y :: ys => gw x y && mg xs ys
 | _, _ => false
end
mutual
theorem sr : ∀ {a b : AV}, gw a b = true -> a = b
 | .bool a, b, h => by cases b <;> simp only [gw, bm] at h; simpa using h
 | .int k a, b, h => by cases b <;> simp only [gw, bm] at h; simpa using h
 | .str a, b, h => by cases b <;> simp only [gw, bm] at h; simpa using h
 | .a7, b, h => by cases b <;> simp only [gw, bm] at h; rfl
 | .ax, b, h => by cases b <;> simp only [gw, bm] at h; rfl
 | .jS, b, h => by cases b <;> simp only [gw, bm] at h; rfl
 | .cX, b, h => by cases b <;> simp only [gw, bm] at h; rfl
 | .cI, b, h => by cases b <;> simp only [gw, bm] at h; rfl
 | .box a i, b, h => by cases b <;> simp only [gw, bm, bP] at h; rw [eo h.1, eo h.2]
 | .cj l, b, h => by cases b <;> simp only [gw, bm] at h; rw [il h]
 | .vec n c l, b, h => by cases b <;> simp only [gw, bm, bP] at h; rw [eo h.1.1, Nh h.1.2, il h.2]
 | .ms b o n z e, b', h => by
   cases b' <;> simp only [gw, bm, bP] at h
   rw [eo h.1.1.1.1, eo h.1.1.1.2, eo h.1.1.2, eo h.1.2, eo h.2]
 | .mp a, b, h => by cases b <;> simp only [gw, bm] at h; rw [eo h]
 | .eL ks vs, b, h => by cases b <;> simp only [gw, bm, bP] at h; rw [il h.1, il h.2]
 | .func f a b, b', h => by cases b' <;> simp only [gw, bm, bP] at h; rw [Rr h.1.1, il h.1.2, il h.2]
 | .iface t v, b, h => by cases b <;> simp only [gw, bm, bP] at h; rw [eo h.1, sr h.2]
 | .agg l, b, h => by cases b <;> simp only [gw, bm] at h; rw [il h]
 | .aO l, b, h => by cases b <;> simp only [gw, bm] at h; rw [il h]
 | .o9 a, b, h => by cases b <;> simp only [gw, bm] at h; rw [eo h]
 | .it a, b, h => by cases b <;> simp only [gw, bm] at h; rw [eo h]
 | .any, b, h => by cases b <;> simp only [gw, bm] at h; rfl
theorem il : ∀ {a b : List AV}, mg a b = true -> a = b
 | [], b, h => by cases b <;> simp only [mg, bm] at h; rfl
 | x :: xs, b, h => by cases b <;> simp only [mg, bm, bP] at h; rw [sr h.1, il h.2]
end
def CA : Option Live -> Option Live -> Bool
 | some (.box l), some (.box l') => mg l l'
 | some (.mp a b), some (.mp a' b') => mg a a' && mg b b'
 | _, _ => false
theorem H5 {a b : Option Live} (h : CA a b = true) : a = b := by
 unfold CA at h
 split at h
 · rw [il h]
 · simp only [bP] at h; rw [il h.1, il h.2]
 · cases h
end Go.Rip
namespace Go.Rip
open Go.RowKit
structure fZ where
 C : cr
 mu : Nat -> List Nat
 pf : Nat -> Bool
 sm : Nat -> List AV -> Option AV
 QT : Nat -> List AV -> ES -> Option (AV × ES)
 tr : Nat -> Bool
 ft : TypeId
 ins : Nat -> Nat -> Option (List Row × List (Bool × Nat) × kU × List (Bool × Nat)) := fun _ _ => none
abbrev KR := cB -> ES -> Bool
abbrev KC := Ex -> T AV -> ES -> Bool
abbrev pB := Nat -> List AV -> ES -> KR -> Bool
def rK (k kp : AV -> ES -> Bool) : KR
 | .ret v, e => k v e
 | .panic v, e => kp v e
def wD (cf cy : pB) (e : ES) : av -> (AV -> ES -> Bool) -> (AV -> ES -> Bool) -> Bool
 | .val v, k, _ => k v e
 | .jD v b x, k, _ => k v (e.set b x)
 | .new kd del x, k, _ => k (kd.at e.n) ((e.pc del).new x)
 | .ji b l, k, _ => l.all fun p => k p.1 (e.set b p.2)
 | .enter f args, k, kp => cf f args e (rK k kp)
 | .yield o args, k, kp => cy o args e (rK k kp)
 | .panic v, _, kp => kp v e
 | @av.cond p d r, k, kp => (@decide p d) && wD cf cy e r k kp
 | .bad, _, _ => false
def yE (V : fZ) (cf cy : pB) (mu : List Nat) (ops : Array Oper) : List Oper -> T AV -> ES -> (T AV -> ES -> Bool) -> (AV -> ES -> Bool) -> Bool
 | [], ρ, e, k, _ => k ρ e
 | o :: rest, ρ, e, k, kp => match fS ops (ep ρ) o.guard with
   | .bool true => wD cf cy e (gH V.C (nc mu o) o.op (ep ρ) (br e)) (fun v e' => yE V cf cy mu ops rest (vI ρ o.dst v) e' k kp) kp
   | .bool false => yE V cf cy mu ops rest (vI ρ o.dst (.aO [])) e k kp
   | _ => false
def Gb (V : fZ) : av -> Option AV
 | .val v => some v
 | @av.cond p d r => cond (@decide p d) (Gb V r) none
 | .enter f args => V.sm f args
 | _ => none
def Ht (B : List Nat) (e0 e : ES) : Bool := B.all fun b => CA (e.live.get b) (e0.live.get b)
def Ab (C : cr) (B : List Nat) (ρ : Env) (op : Op) : Bool := op.operands.toList.all fun x => (cT (ρ.ev C x)).all fun b => B.any fun c => Nat.beq c b
def mA (V : fZ) (cf cy : pB) (mu : List Nat) (ops : Array Oper) (B : List Nat) (e0 : ES) : List (Bool × Nat) -> T AV -> ES -> (T AV -> ES -> Bool) -> (AV -> ES -> Bool) -> Bool
 | [], ρ, e, k, _ => k ρ e
 | (true, i) :: r, ρ, e, k, kp => match ops[i]? with
   | none => false
   | some o => match fS ops (ep ρ) o.guard with
     | .bool true => quiet o.op && (!lW o.op || Ab V.C B (ep ρ) o.op) && (match Gb V (gH V.C (nc mu o) o.op (ep ρ) (br e0)) with
       | some v => mA V cf cy mu ops B e0 r (vI ρ o.dst v) e k kp
       | none => false)
     | .bool false => mA V cf cy mu ops B e0 r (vI ρ o.dst (.aO [])) e k kp
     | _ => false
 | (false, i) :: r, ρ, e, k, kp => match ops[i]? with
   | none => false
   | some o => match fS ops (ep ρ) o.guard with
     | .bool true => wD cf cy e (gH V.C (nc mu o) o.op (ep ρ) (br e)) (fun v e' => (Ht B e0 e' || jh ops i) && mA V cf cy mu ops B e0 r (vI ρ o.dst v) e' k kp) kp
     | .bool false => mA V cf cy mu ops B e0 r (vI ρ o.dst (.aO [])) e k kp
     | _ => false
def JH (V : fZ) (o : Oper) : Bool := match o.op with
 | .call c => match c.callee with
   | .value (.func f) => V.pf f
   | .value _ => false
   | _ => quiet o.op
 | op => quiet op
def vA (V : fZ) (ops : Array Oper) : Nat -> Array Bool -> List (Bool × Nat)
 | 0, _ => []
 | n + 1, listed => match (Region.ready .any ops listed).find? fun i => match ops[i]? with | some o => JH V o | none => false with
   | some i => (true, i) :: vA V ops n (listed.setIfInBounds i true)
   | none => match Region.ready .any ops listed with
     | i :: _ => (false, i) :: vA V ops n (listed.setIfInBounds i true)
     | [] => []
def preB (V : fZ) (mu : List Nat) (e0 : ES) : List Oper -> T AV -> List Nat -> List Nat
 | [], _, B => B
 | o :: r, ρ, B => preB V mu e0 r (vI ρ o.dst (cond (JH V o) ((Gb V (gH V.C (nc mu o) o.op (ep ρ) (br e0))).getD .any) .any)) (cond (lW o.op) (o.op.operands.toList.flatMap (fun x => cT ((ep ρ).ev V.C x)) ++ B) B)
def Ha (P : Program) (ty : TypeId) (p : AV) (U : St) : Option AV := match rh P ty p U with
 | .val v => some v
 | @av.cond q d (.val v) => cond (@decide q d) (some v) none
 | _ => none
def yb (P : Program) (ρ : Env) (U : St) : List ResultVar -> Option (List AV)
 | [] => some []
 | .tmp t :: rs => (yb P ρ U rs).map fun vs => ρ.get t :: vs
 | .cell t ty :: rs => match Ha P ty (ρ.get t) U with
   | some v => (yb P ρ U rs).map fun vs => v :: vs
   | none => none
abbrev qO := Nat -> List Nat -> Nat -> Ro -> Code -> T AV -> ES -> KC -> Bool
def Nb (P : Program) (fn : Func) (k : KR) : KC := fun ex ρ e => match ex with
 | .normal | .ret => match yb P (ep ρ) (br e) fn.results.toList with
   | some vs => k (.ret (sa vs)) e
   | none => false
 | .panic x => k (.panic x) e
 | .exit _ => false
def D2 (ft : TypeId) (a : Nat) (k : KR) : KR
 | .ret v, e => match (br e).box a, (br e).box (a + 1), (br e).box (a + 2) with
   | some [_], some [_], some [_] => v.scalar && k (.ret (.aO [v, .int .i64 0, .bool true])) (((e.set a (.box [v])).set (a + 1) (.box [.int .i64 0])).set (a + 2) (.box [.bool true]))
   | _, _, _ => false
 | .panic x, e => match x, (br e).box a, (br e).box (a + 1), (br e).box (a + 2) with
   | .iface t (.agg [.int .i64 at_]), some [_], some [_], some [_] => Nat.beq t ft && k (.ret (.aO [.a7, .int .i64 at_, .bool false])) ((((e.new (.box [.int .i64 at_])).set a (.box [.a7])).set (a + 1) (.box [.int .i64 at_])).set (a + 2) (.box [.bool false]))
   | _, _, _, _ => false
def BR (V : fZ) (ev : qO) : pB := fun f args e k =>
 match V.sm f args with
 | some x => k (.ret x) e
 | none => match V.QT f args e with
   | some (x, e') => k (.ret x) e'
   | none => match V.C.P.funcs[f]? with
     | some fn => match fn.body with
       | some c => Nat.ble args.length fn.ntmps && ev fn.ntmps (V.mu f) f .fn c (T.FR args 0 .e) e (Nb V.C.P fn k)
       | none => false
     | none => false
def Wl (e : ES) : ES := ((e.new (.box [.a7])).new (.box [.int .i64 0])).new (.box [.bool false])
def pD (V : fZ) (ev : qO) : pB := fun f args e k =>
 cond (V.tr f) (match args with
  | [_, .func (.func g) first cap] => dz V.C.P g && BR V ev g (first ++ cap) (Wl e) (D2 V.ft e.n k)
  | _ => false) (BR V ev f args e k)
def endRound (o : Nat) (k : KR) : KC := fun ex _ e => match (br e).loop o with
 | some L => match ex with
   | .normal => k (.ret (.bool true)) (e.set o (.loop { L with state := .ready, eN := none }))
   | .ret => k (.ret (.bool false)) (e.set o (.loop { L with state := .done, eN := some .ret }))
   | .exit id => k (.ret (.bool false)) (e.set o (.loop { L with state := .done, eN := some (.exit id) }))
   | .panic _ => false
 | none => false
def isReady : LoopState -> Bool
 | .ready => true
 | _ => false
def IY : LoopState -> Bool
 | .busy => true
 | _ => false
def oI (f : Nat -> AV) : Nat -> T AV -> T AV
 | 0, t => t
 | n + 1, t => oI f n (t.set n (some (f n)))
def s9 (V : fZ) (ev : qO) : pB := fun o args e k =>
 match (br e).loop o with
 | some L => Nat.beq args.length L.params.size && L.params.toList.all (fun t => Nat.blt t L.nt) &&
   ev L.nt (V.mu L.tag) L.tag (.round o) L.assign (oI (tT L.ρ L.params.toList args) L.nt .e) e (fun ex ρ e => match ex with
    | .normal => match (br e).loop o with
      | some L' => isReady L'.state && ev L.nt (V.mu L.tag) L.tag (.round o) L.body ρ (e.set o (.loop { L' with state := .busy })) (endRound o k)
      | none => false
    | _ => false)
 | none => false
def Cz (o : Nat) (ρ : T AV) (k : KC) : KR
 | .ret _, e => match (br e).loop o with
   | some L => !IY L.state && (match L.eN with
     | none => k .normal ρ (e.del o)
     | some .ret => k .ret ρ (e.del o)
     | some (.exit id) => k (.exit id) ρ (e.del o)
     | _ => false)
   | none => false
 | .panic x, e => k (.panic x) .e e
def NK (V : fZ) (ops : Array Oper) (B : List Nat) (I : kU) (ρ : T AV) (e : ES) (k : T AV -> ES -> Bool) : Bool := match (ep ρ).get I.m with
 | .mp id => (match (br e).mp id with | some ([], []) => true | _ => false) && (B.all (fun b => !Nat.beq b id) && k ρ (e.set id (.mp (mE I.kk (kQ V.C ops (ep ρ) I) ([], [])).1 (mE I.kk (kQ V.C ops (ep ρ) I) ([], [])).2)))
 | _ => false
def kZ (V : fZ) : Nat -> qO
 | 0 => fun _ _ _ _ _ _ _ _ => false
 | n + 1 => fun nt mu tag ro c ρ e k =>
   match c with
   | .skip => k .normal ρ e
   | .exit id => k (.exit id) ρ e
   | .ret => k .ret ρ e
   | .seq a b => kZ V n nt mu tag ro a ρ e fun ex ρ e => match ex with
     | .normal => kZ V n nt mu tag ro b ρ e k
     | ex => k ex ρ e
   | .cond x a b => match (ep ρ).ev V.C x with
     | .bool true => kZ V n nt mu tag ro a ρ e k
     | .bool false => kZ V n nt mu tag ro b ρ e k
     | _ => false
   | .block id a => kZ V n nt mu tag ro a ρ e fun ex ρ e => match ex with
     | .exit xh => cond (Nat.beq xh id) (k .normal ρ e) (k (.exit xh) ρ e)
     | ex => k ex ρ e
   | .loop a => kZ V n nt mu tag ro a ρ e fun ex ρ e => match ex with
     | .normal => kZ V n nt mu tag ro (.loop a) ρ e k
     | ex => k ex ρ e
   | .region _ ops false => km nt ops && yE V (pD V (kZ V n)) (s9 V (kZ V n)) mu ops ops.toList ρ e (fun ρ e => k .normal ρ e) (fun x e => k (.panic x) .e e)
   | .region id ops true => match V.ins tag id with
     | none => km nt ops && (gI ops (vA V ops ops.size (Array.replicate ops.size false)) (Array.replicate ops.size false) && ((vA V ops ops.size (Array.replicate ops.size false)).length == ops.size)) &&
     mA V (pD V (kZ V n)) (s9 V (kZ V n)) mu ops (preB V mu e ops.toList ρ []) e (vA V ops ops.size (Array.replicate ops.size false)) ρ e (fun ρ e => k .normal ρ e) (fun x e => k (.panic x) .e e)
     | some (rows, cW, I, post) => km nt ops && (x5 V.C.P ops rows cW I post && mA V (pD V (kZ V n)) (s9 V (kZ V n)) mu ops (preB V mu e ops.toList ρ []) e cW ρ e (fun dv e' => NK V ops (preB V mu e ops.toList ρ []) I dv e' (fun dv e' => mA V (pD V (kZ V n)) (s9 V (kZ V n)) mu ops (preB V mu e ops.toList ρ []) e post dv e' (fun ρ e => k .normal ρ e) (fun x e => k (.panic x) .e e))) (fun x e => k (.panic x) .e e))
   | .rangeFunc f ps assign body => match ro, (ep ρ).ev V.C f with
     | .fn, .func (.func gV) first cap => dz V.C.P gV && pD V (kZ V n) gV (first ++ [.o9 e.n] ++ cap) (e.new (.loop ⟨(ep ρ).get, nt, ps, assign, body, .ready, none, tag⟩)) (Cz e.n ρ k)
     | _, _ => false
   | _ => false
def kR (k : KR) : cB -> St -> Prop := fun r U => ∃ e, U = br e /\ k r e = true
def kA (k : AV -> ES -> Bool) : AV -> St -> Prop := fun v U => ∃ e, U = br e /\ k v e = true
def kE (k : T AV -> ES -> Bool) : Env -> St -> Prop := fun ρ U => ∃ t e, ρ = ep t /\ U = br e /\ k t e = true
def kC (k : KC) : Ex -> Env -> St -> Prop
 | .panic x, _, U => ∃ e, U = br e /\ k (.panic x) .e e = true
 | ex, ρ, U => ∃ t e, ρ = ep t /\ U = br e /\ k ex t e = true
def D3 (ft : TypeId) (a b c : Nat) (R : cB -> St -> Prop) : cB -> St -> Prop
 | .ret v, U => v.scalar = true /\ (∃ x, U.box a = some [x]) /\ (∃ x, U.box b = some [x]) /\ (∃ x, U.box c = some [x]) /\ R (.ret (.aO [v, .int .i64 0, .bool true])) (((U.bW a [v]).bW b [.int .i64 0]).bW c [.bool true])
 | .panic x, U => ∃ at_, x = .iface ft (.agg [.int .i64 at_]) /\ (∃ x, U.box a = some [x]) /\ (∃ x, U.box b = some [x]) /\ (∃ x, U.box c = some [x]) /\
    ∀ q, U.cN q -> R (.ret (.aO [.a7, .int .i64 at_, .bool false])) ((((U.new q (.box [.int .i64 at_])).bW a [.a7]).bW b [.int .i64 at_]).bW c [.bool false])
def E9 (C : cr) (ft : TypeId) (f : Nat) : Prop := ∀ r g first cap U R, dz C.P g = true ->
 (∀ a b c, U.cN a -> (U.new a (.box [.a7])).cN b -> ((U.new a (.box [.a7])).new b (.box [.int .i64 0])).cN c ->
   af C g (first ++ cap) (((U.new a (.box [.a7])).new b (.box [.int .i64 0])).new c (.box [.bool false])) (D3 ft a b c R)) -> af C f [r, .func (.func g) first cap] U R
structure ot (V : fZ) : Prop where
 sm : ∀ f args x, V.sm f args = some x -> Pure V.C f args x
 QT : ∀ f args e x e', V.QT f args e = some (x, e') -> ∀ R, R (.ret x) (br e') -> af V.C f args (br e) R
 tr : ∀ f, V.tr f = true -> E9 V.C V.ft f
 mixed : V.C.P.follows .mixedOrders = true
def uK (V : fZ) (cf : pB) : Prop := ∀ f args e k, cf f args e k = true -> af V.C f args (br e) (kR k)
def wc (V : fZ) (cy : pB) : Prop := ∀ o args e k, cy o args e k = true -> jJ V.C o args (br e) (kR k)
def sj (V : fZ) (ev : qO) : Prop := ∀ nt mu tag ro c ρ e k, ev nt mu tag ro c ρ e k = true -> bp V.C nt ro c (kC k) (ep ρ) (br e)
theorem pQ {e : ES} {b : Nat} (h : (br e).cN b) : b = e.n := h.2 _ rfl
theorem HZ (e : ES) (d : Option Nat) : (e.pc d).n = e.n := by cases d <;> rfl
section
variable {V : fZ} {cf cy : pB}
theorem yd (hf : uK V cf) (hy : wc V cy) {e : ES} {k kp : AV -> ES -> Bool} : ∀ (r : av), wD cf cy e r k kp = true -> r.wp V.C (br e) (kA k) (kA kp)
 | .val v, h => ⟨e, rfl, h⟩
 | .jD v b x, h => ⟨e.set b x, (kr e b x).symm, h⟩
 | .new kd del x, h => fun b hb => by
   rw [<- Mx] at hb ⊢
   have := pQ hb
   rw [HZ] at this
   subst this
   exact ⟨(e.pc del).new x, by rw [oH, HZ], h⟩
 | .ji b l, h => fun p hp => by
   simp only [wD, dP] at h
   exact ⟨e.set b p.2, (kr e b p.2).symm, h p hp⟩
 | .enter f args, h => (hf f args e _ h).mono fun r U hr => by cases r <;> exact hr
 | .yield o args, h => (hy o args e _ h).mono fun r U hr => by cases r <;> exact hr
 | .panic v, h => ⟨e, rfl, h⟩
 | @av.cond p d r, h => by
   simp only [wD, bP] at h
   exact ⟨@of_decide_eq_true p d h.1, yd hf hy r h.2⟩
 | .bad, h => by cases h
theorem Rw {ops : Array Oper} {B : List Nat} {I : kU} {k : T AV -> ES -> Bool} (ρ : T AV) (e : ES) (h : NK V ops B I ρ e k = true) : GU V.C ops B I (kE k) (ep ρ) (br e) := by
 unfold NK at h
 split at h
 · rename_i id hid
   simp only [bP, dP, Bool.not_eq_true'] at h
   obtain ⟨h1, h2, h3⟩ := h
   split at h1
   · rename_i CW
     refine ⟨id, hid, CW, fun hm => ?_, ρ, _, rfl, (kr e id _).symm, h3⟩
     have := h2 id hm
     simp at this
   · cases h1
 · cases h
theorem xN (hf : uK V cf) (hy : wc V cy) {mu : List Nat} {ops : Array Oper} {k : T AV -> ES -> Bool} {kp : AV -> ES -> Bool} : ∀ (l : List Oper) (ρ : T AV) (e : ES), yE V cf cy mu ops l ρ e k kp = true ->
 mr V.C mu ops l (ep ρ) (br e) (kE k) (kA kp)
 | [], ρ, e, h => ⟨ρ, e, rfl, rfl, h⟩
 | o :: rest, ρ, e, h => by
   simp only [yE] at h
   simp only [mr]
   split at h
   · rename_i hg
     rw [hg]
     refine ⟨fun _ => ?_, fun h => (by cases h)⟩
     refine av.wp_mono ?_ _ (yd hf hy _ h)
     rintro v U ⟨e', rfl, hk⟩
     have := xN hf hy rest _ e' hk
     rw [nx] at this
     exact this
   · rename_i hg
     rw [hg]
     refine ⟨fun h => (by cases h), fun _ => ?_⟩
     have := xN hf hy rest _ e h
     rw [nx] at this
     exact this
   · cases h
theorem MR (hV : ot V) : ∀ (r : av) (v : AV), Gb V r = some v -> r.yv V.C v
 | .val u, v, h => by simp only [Gb, gq] at h; exact h
 | @av.cond p d r, v, h => by
   simp only [Gb] at h
   cases hd : @decide p d with
   | false => rw [hd] at h; cases h
   | true => rw [hd] at h; exact ⟨@of_decide_eq_true p d hd, MR hV r v h⟩
 | .enter f args, v, h => hV.sm f args v h
 | .jD _ _ _, v, h => by cases h
 | .new _ _ _, v, h => by cases h
 | .ji _ _, v, h => by cases h
 | .yield _ _, v, h => by cases h
 | .panic _, v, h => by cases h
 | .bad, v, h => by cases h
theorem N8 {B : List Nat} {e0 e : ES} (h : Ht B e0 e = true) : cU B (br e0) (br e) := fun b hb => by
 unfold Ht at h
 rw [dP] at h
 exact H5 (h b hb)
theorem GK {C : cr} {B : List Nat} {ρ : Env} {op : Op} (h : Ab C B ρ op = true) : ∀ x ∈ op.operands.toList, ∀ b ∈ cT (ρ.ev C x), b ∈ B := fun x hx b hb => by
 unfold Ab at h
 rw [dP] at h
 have := h x hx
 rw [dP] at this
 have := this b hb
 rw [List.any_eq_true] at this
 obtain ⟨c, hc, he⟩ := this
 rw [<- eo he]; exact hc
theorem lx (hV : ot V) (hf : uK V cf) (hy : wc V cy) {mu : List Nat} {ops : Array Oper} {B : List Nat} {e0 : ES} {k : T AV -> ES -> Bool} {kp : AV -> ES -> Bool} : ∀ (l : List (Bool × Nat)) (ρ : T AV) (e : ES), mA V cf cy mu ops B e0 l ρ e k kp = true ->
 kn V.C mu ops B (br e0) (kE k) (kA kp) l (ep ρ) (br e)
 | [], ρ, e, h => ⟨ρ, e, rfl, rfl, h⟩
 | (true, i) :: r, ρ, e, h => by
   simp only [mA] at h
   split at h
   · cases h
   · rename_i o ho
     split at h
     · rename_i hg
       simp only [bP, iZ, Bool.not_eq_true'] at h
       obtain ⟨⟨h1, h2⟩, h3⟩ := h
       split at h3
       · rename_i v hv
         refine ⟨o, v, ho, .inl ⟨hg, h1, fun C6 => ?_, MR hV _ _ hv⟩, ?_⟩
         · rcases h2 with h2 | h2
           · rw [C6] at h2; cases h2
           · exact GK h2
         · have := lx hV hf hy r _ e h3
           rw [nx] at this
           exact this
       · cases h3
     · rename_i hg
       refine ⟨o, .aO [], ho, .inr ⟨hg, rfl⟩, ?_⟩
       have := lx hV hf hy r _ e h
       rw [nx] at this
       exact this
     · cases h
 | (false, i) :: r, ρ, e, h => by
   simp only [mA] at h
   simp only [kn, lY]
   split at h
   · cases h
   · rename_i o ho
     try rw [ho]
     try dsimp only
     split at h
     · rename_i hg
       rw [hg]
       refine ⟨fun _ => ?_, fun h => (by cases h)⟩
       refine av.wp_mono ?_ _ (yd hf hy _ h)
       rintro v U ⟨e', rfl, hk⟩
       simp only [bP] at hk
       refine ⟨?_, ?_⟩
       · rw [iZ] at hk
         rcases hk.1 with h | h
         · exact .inr (N8 h)
         · exact .inl h
       have := lx hV hf hy r _ e' hk.2
       rw [nx] at this
       exact this
     · rename_i hg
       rw [hg]
       refine ⟨fun h => (by cases h), fun _ => ?_⟩
       have := lx hV hf hy r _ e h
       rw [nx] at this
       exact this
     · cases h
theorem rm {C : cr} {mu : List Nat} {ops : Array Oper} {K K' : Env -> St -> Prop} {Kp yo : AV -> St -> Prop} (hk : ∀ ρ U, K ρ U -> K' ρ U) (hp : ∀ v U, Kp v U -> yo v U) : ∀ (l : List Oper) {ρ : Env} {U : St}, mr C mu ops l ρ U K Kp -> mr C mu ops l ρ U K' yo
 | [], _, _, h => hk _ _ h
 | o :: rest, ρ, U, h => by
   simp only [mr] at h ⊢
   have wpp : ∀ (r : av) {U : St} {X : AV -> St -> Prop}, r.wp C U X Kp -> r.wp C U X yo := fun r => by
    induction r with
    | val _ => exact fun h => h
    | jD _ _ _ => exact fun h => h
    | new _ _ _ => exact fun h => h
    | ji _ _ => exact fun h => h
    | enter f args => exact fun h => h.mono fun r U hr => by cases r <;> first | exact hr | exact hp _ _ hr
    | yield o args => exact fun h => h.mono fun r U hr => by cases r <;> first | exact hr | exact hp _ _ hr
    | panic v => exact fun h => hp _ _ h
    | cond p r ih => exact fun h => ⟨h.1, ih h.2⟩
    | bad => exact fun h => h
   cases hg : fS ops ρ o.guard <;> rw [hg] at h <;> simp only [al] at h ⊢
   exact ⟨fun e => av.wp_mono (fun v U hv => rm hk hp rest hv) _ (wpp _ (h.1 e)), fun e => rm hk hp rest (h.2 e)⟩
theorem NU {P : Program} {ty : TypeId} {p v : AV} {U : St} (h : Ha P ty p U = some v) {k : AV -> Prop} (hk : k v) : wv P ty p U k := by
 unfold Ha at h
 unfold wv
 split at h
 · rename_i u hu
   cases h
   first | exact hk | (rw [hu]; exact hk)
 · rename_i q d u hu
   cases hd : @decide q d with
   | false => rw [hd] at h; cases h
   | true =>
     rw [hd] at h; cases h
     first | exact ⟨@of_decide_eq_true q d hd, hk⟩ | (rw [hu]; exact ⟨@of_decide_eq_true q d hd, hk⟩)
 · cases h
theorem wC {P : Program} {ρ : Env} {U : St} : ∀ (rs : List ResultVar) (vs : List AV) (k : List AV -> Prop), yb P ρ U rs = some vs -> k vs -> rY P ρ U rs k
 | [], vs, k, h, hk => by simp only [yb, gq] at h; subst h; exact hk
 | .tmp t :: rs, vs, k, h, hk => by
   simp only [yb, mv] at h
   obtain ⟨us, hu, rfl⟩ := h
   exact wC rs us _ hu hk
 | .cell t ty :: rs, vs, k, h, hk => by
   simp only [yb] at h
   split at h
   · rename_i v hv
     simp only [mv] at h
     obtain ⟨us, hu, rfl⟩ := h
     exact NU hv (wC rs us _ hu hk)
   · cases h
theorem Cr (hV : ot V) {ev : qO} (he : sj V ev) : uK V (BR V ev) := fun f args e k h => by
 simp only [BR] at h
 split at h
 · rename_i x hx
   exact hV.sm f args x hx _ _ ⟨e, rfl, h⟩
 · split at h
   · rename_i x e' hx
     exact hV.QT f args e x e' hx _ ⟨e', rfl, h⟩
   · split at h
     · rename_i fn hfn
       split at h
       · rename_i c hc
         simp only [bP] at h
         refine af.FT hfn hc (Nat.le_of_ble_eq_true h.1) ?_
         have := he _ _ _ _ _ _ _ _ h.2
         rw [Gu] at this
         refine this.mono ?_
         intro ex ρ U hc
         cases ex with
         | normal =>
           obtain ⟨t, e', rfl, rfl, hk⟩ := hc
           simp only [Nb] at hk
           split at hk
           · rename_i vs vp
             exact wC _ vs _ vp ⟨_, _, ln.refl _ _, e', rfl, hk⟩
           · cases hk
         | ret =>
           obtain ⟨t, e', rfl, rfl, hk⟩ := hc
           simp only [Nb] at hk
           split at hk
           · rename_i vs vp
             exact wC _ vs _ vp ⟨_, _, ln.refl _ _, e', rfl, hk⟩
           · cases hk
         | panic x =>
           obtain ⟨e', rfl, hk⟩ := hc
           exact ⟨e', rfl, hk⟩
         | exit id =>
           obtain ⟨t, e', rfl, rfl, hk⟩ := hc
           cases hk
       · cases h
     · cases h
theorem kT (e : ES) (b : Nat) (l : List AV) : (br e).bW b l = br (e.set b (.box l)) := (kr e b _).symm
theorem Cs (hV : ot V) {ev : qO} (he : sj V ev) : uK V (pD V ev) := fun f args e k h => by
 simp only [pD] at h
 cases II : V.tr f with
 | false => rw [II] at h; exact Cr hV he f args e k h
 | true =>
   rw [II] at h
   simp only [cond_true] at h
   split at h
   · rename_i r g first cap
     rw [bP] at h
     obtain ⟨qg, h⟩ := h
     refine hV.tr f II r g first cap _ _ qg fun a b c ha hb hc => ?_
     have ea := pQ ha
     subst ea
     rw [<- oH] at hb hc ⊢
     have eb := pQ hb
     subst eb
     rw [<- oH] at hc ⊢
     have ec := pQ hc
     subst ec
     rw [<- oH]
     refine (Cr hV he g _ _ _ h).mono ?_
     rintro r U ⟨e', rfl, hk⟩
     cases r with
     | ret v =>
       simp only [D2] at hk
       split at hk
       · rename_i x y z h1 h2 h3
         rw [bP] at hk
         refine ⟨hk.1, ⟨x, h1⟩, ⟨y, h2⟩, ⟨z, h3⟩, ?_⟩
         rw [kT, kT, kT]
         exact ⟨_, rfl, hk.2⟩
       · cases hk
     | panic x =>
       simp only [D2] at hk
       split at hk
       · rename_i t at_ x y z h1 h2 h3
         simp only [bP] at hk
         have ht := eo hk.1
         subst ht
         refine ⟨at_, rfl, ⟨x, h1⟩, ⟨y, h2⟩, ⟨z, h3⟩, fun q hq => ?_⟩
         have eq := pQ hq
         subst eq
         rw [<- oH, kT, kT, kT]
         exact ⟨_, rfl, hk.2⟩
       · cases hk
   · cases h
theorem qI (f : Nat -> AV) : ∀ (n : Nat) (t : T AV) (i : Nat), (oI f n t).get i = if i < n then some (f i) else t.get i
 | 0, t, i => by simp [oI]
 | n + 1, t, i => by
   simp only [oI]
   rw [qI f n, T.pS]
   by_cases h : i < n
   · rw [if_pos h, if_pos (by omega)]
   · rw [if_neg h]
     by_cases e : i = n
     · subst e; simp
     · rw [if_neg e, if_neg (by omega)]
end
end Go.Rip
namespace Go.Rip
open Go.RowKit
theorem bp.env {C : cr} {nt : Nat} {ro : Ro} {c : Code} {Q : Ex -> Env -> St -> Prop} {ρ dv : Env} {U : St} (h1 : ∀ t, t < nt -> dv.get t = ρ.get t) (h2 : ∀ t, nt <= t -> dv.get t = .aO []) (h : bp C nt ro c Q dv U) : bp C nt ro c Q ρ U := by
 intro g w a fr k1 k2 k3 k4 k5
 refine h g w a fr k1 k2 (fun t => ?_) k4 k5
 by_cases ht : t < nt
 · rw [h1 t ht]; exact k3 t
 · rw [h2 t (by omega)]
   have : a.tmps.getD t undef = undef := by
    rw [Array.getD_eq_getD_getElem?, tX (by omega)]; rfl
   rw [this]; exact rv
section
variable {V : fZ}
theorem MQ (hV : ot V) {ev : qO} (he : sj V ev) : wc V (s9 V ev) := fun o args e k h => by
 simp only [s9] at h
 split at h
 · rename_i L hL
   simp only [bP] at h
   obtain ⟨⟨h1, h2⟩, h3⟩ := h
   refine jJ.DA hL (eo h1) (fun t ht => ?_) ?_
   · rw [dP] at h2
     have := h2 t ht
     simpa [Nat.blt_eq] using this
   · have h4 := he _ _ _ _ _ _ _ _ h3
     refine bp.env (dv := ep (oI (tT L.ρ L.params.toList args) L.nt .e)) (fun t ht => ?_) (fun t ht => ?_) ?_
     · simp only [ep]; rw [qI, if_pos ht]; rfl
     · simp only [ep]; rw [qI, if_neg (by omega)]; rfl
     · refine h4.mono ?_
       intro ex ρ U hc
       cases ex with
       | normal =>
         obtain ⟨t, e', rfl, rfl, hk⟩ := hc
         dsimp only at hk
         split at hk
         · rename_i L' Fq
           simp only [bP] at hk
           refine ⟨L', Fq, ?_, ?_⟩
           · have := hk.1
             cases hs : L'.state <;> rw [hs] at this <;> first
              | rfl
              | (simp [isReady] at this)
           · have h5 := he _ _ _ _ _ _ _ _ hk.2
             rw [kr] at h5
             refine h5.mono ?_
             intro ex ρ U wZ
             cases ex with
             | normal =>
               obtain ⟨t', e2, rfl, rfl, fp⟩ := wZ
               simp only [endRound] at fp
               split at fp
               · rename_i L2 Ik; exact ⟨L2, Ik, _, (kr _ _ _).symm, fp⟩
               · cases fp
             | ret =>
               obtain ⟨t', e2, rfl, rfl, fp⟩ := wZ
               simp only [endRound] at fp
               split at fp
               · rename_i L2 Ik; exact ⟨L2, Ik, _, (kr _ _ _).symm, fp⟩
               · cases fp
             | exit id =>
               obtain ⟨t', e2, rfl, rfl, fp⟩ := wZ
               simp only [endRound] at fp
               split at fp
               · rename_i L2 Ik; exact ⟨L2, Ik, _, (kr _ _ _).symm, fp⟩
               · cases fp
             | panic x =>
               obtain ⟨e2, rfl, fp⟩ := wZ
               simp only [endRound] at fp
               split at fp <;> cases fp
         · cases hk
       | exit id => obtain ⟨t, e', rfl, rfl, hk⟩ := hc; cases hk
       | ret => obtain ⟨t, e', rfl, rfl, hk⟩ := hc; cases hk
       | panic x => obtain ⟨e', rfl, hk⟩ := hc; cases hk
 · cases h
theorem Nj (hV : ot V) (n : Nat) (ZB : ∀ m, m < n -> sj V (kZ V m)) : sj V (kZ V n) := by
 cases n with
 | zero => intro nt mu tag ro c ρ e k h; cases h
 | succ n =>
   intro nt mu tag ro c ρ e k h
   have ih := ZB n (Nat.lt_succ_self n)
   have hf := Cs hV ih
   have hy := MQ hV ih
   by_cases hl : ∃ a, c = .loop a
   · obtain ⟨a, rfl⟩ := hl
     refine bp.loop (fun j ρ U => j <= n + 1 /\ ∃ t e, ρ = ep t /\ U = br e /\ kZ V j nt mu tag ro (.loop a) t e k = true) (n := n + 1) ⟨de _, ρ, e, rfl, rfl, h⟩ ?_
     rintro j dv ae ⟨hj, t, e', rfl, rfl, hk⟩
     cases j with
     | zero => cases hk
     | succ j =>
       simp only [kZ] at hk
       refine (ZB j (by omega) _ _ _ _ _ _ _ _ hk).mono ?_
       intro ex pa bR hc
       cases ex with
       | normal =>
         obtain ⟨t2, e2, rfl, rfl, fp⟩ := hc
         exact ⟨j, Nat.lt_succ_self j, by omega, t2, e2, rfl, rfl, fp⟩
       | exit id => exact hc
       | ret => exact hc
       | panic x => exact hc
   simp only [kZ] at h
   split at h
   · exact bp.skip ⟨ρ, e, rfl, rfl, h⟩
   · exact bp.exit ⟨ρ, e, rfl, rfl, h⟩
   · exact bp.ret ⟨ρ, e, rfl, rfl, h⟩
   · rename_i a b
     refine bp.seq ((ih _ _ _ _ _ _ _ _ h).mono ?_)
     intro ex dv ae hc
     cases ex with
     | normal =>
       obtain ⟨t, e', rfl, rfl, hk⟩ := hc
       exact ih _ _ _ _ _ _ _ _ hk
     | exit id => exact hc
     | ret => exact hc
     | panic x => exact hc
   · rename_i x a b
     split at h
     · rename_i hc; exact bp.XK hc (ih _ _ _ _ _ _ _ _ h)
     · rename_i hc; exact bp.XJ hc (ih _ _ _ _ _ _ _ _ h)
     · cases h
   · rename_i id a
     refine bp.block ((ih _ _ _ _ _ _ _ _ h).mono ?_)
     intro ex dv ae hc
     cases ex with
     | normal => exact hc
     | exit xh =>
       obtain ⟨t, e', rfl, rfl, hk⟩ := hc
       simp only [uT]
       dsimp only at hk
       split
       · rename_i hid
         subst hid
         rw [Nat.beq_refl, cond_true] at hk
         exact ⟨t, e', rfl, rfl, hk⟩
       · rename_i hid
         rw [vB hid, cond_false] at hk
         exact ⟨t, e', rfl, rfl, hk⟩
     | ret => exact hc
     | panic x => exact hc
   · rename_i a
     exact (hl ⟨a, rfl⟩).elim
   · rename_i id ops
     simp only [bP] at h
     refine bp.region mu h.1 (rm ?_ ?_ _ (xN hf hy _ _ _ h.2))
     · rintro dv ae ⟨t, e', rfl, rfl, hk⟩
       exact ⟨t, e', rfl, rfl, hk⟩
     · rintro v ae ⟨e', rfl, hk⟩ dv
       exact ⟨e', rfl, hk⟩
   · rename_i id ops
     split at h
     · simp only [bP] at h
       refine bp.ua mu _ _ hV.mixed h.1.1 (by rw [bP]; exact h.1.2) (ia ?_ ?_ _ (lx hV hf hy _ _ _ h.2))
       · rintro dv ae ⟨t, e', rfl, rfl, hk⟩
         exact ⟨t, e', rfl, rfl, hk⟩
       · rintro v ae ⟨e', rfl, hk⟩ dv
         exact ⟨e', rfl, hk⟩
     · rename_i rows cW I post _
       simp only [bP] at h
       have Y9 : ∀ v U, kA (fun x e => k (.panic x) .e e) v U -> uM (kC k) v U := by
        rintro v ae ⟨e', rfl, hk⟩ dv
        exact ⟨e', rfl, hk⟩
       refine bp.JK (B := preB V mu e ops.toList ρ []) (mu := mu) cW I post hV.mixed h.1 (EU h.2.1) (ia ?_ Y9 _ (lx hV hf hy _ _ _ h.2.2))
       rintro dv ae ⟨t, e', rfl, rfl, hk⟩
       obtain ⟨xh, q1, q2, q3, t2, e2, q4, q5, q6⟩ := Rw t e' hk
       refine ⟨xh, q1, q2, q3, ?_⟩
       have key := ia (K' := KQ (kC k)) (by
        rintro pa bR ⟨t3, e3, rfl, rfl, hk⟩
        exact ⟨t3, e3, rfl, rfl, hk⟩) Y9 _ (lx hV hf hy _ _ _ q6)
       rw [<- q4, <- q5] at key
       exact key
   · rename_i f ps assign body
     split at h
     · rename_i gV first cap hfn
       simp only [bP] at h
       refine bp.rangeFunc tag hfn h.1 fun o ho => ?_
       have := pQ ho
       subst this
       rw [<- oH]
       refine (hf _ _ _ _ h.2).mono ?_
       rintro r U ⟨e', rfl, hk⟩
       cases r with
       | ret v =>
         simp only [Cz] at hk
         split at hk
         · rename_i L hL
           simp only [bP, Bool.not_eq_true'] at hk
           refine ⟨L, hL, fun hb => ?_, ?_⟩
           · rw [hb] at hk; simp [IY] at hk
           · have fp := hk.2
             rw [<- yf]
             split at fp
             · rename_i hp; try rw [hp]
               exact ⟨_, _, rfl, rfl, fp⟩
             · rename_i hp; try rw [hp]
               exact ⟨_, _, rfl, rfl, fp⟩
             · rename_i id hp; try rw [hp]
               exact ⟨_, _, rfl, rfl, fp⟩
             · cases fp
         · cases hk
       | panic x => exact ⟨e', rfl, hk⟩
     · cases h
   · cases h
theorem Uf (hV : ot V) (n : Nat) : sj V (kZ V n) := by
 induction n using Nat.strongRecOn with
 | _ n ih => exact Nj hV n ih
theorem Ug {V : fZ} (hV : ot V) (n f : Nat) (args : List AV) (e : ES) (k : KR) (h : pD V (kZ V n) f args e k = true) : af V.C f args (br e) (kR k) := Cs hV (Uf hV n) f args e k h
end
end Go.Rip
namespace Go.Rip
open Go.RowKit
mutual
def closed : AV -> Bool
 | .box _ _ | .ms _ _ _ _ _ | .mp _ | .o9 _ | .it _ => false
 | .vec _ (.own _) _ => false
 | .vec _ _ l => bG l
 | .cj l => bG l
 | .eL ks vs => bG ks && bG vs
 | .func _ a b => bG a && bG b
 | .iface _ v => closed v
 | .agg l => bG l
 | .aO l => bG l
 | _ => true
def bG : List AV -> Bool
 | [] => true
 | x :: xs => closed x && bG xs
end
mutual
theorem aw.closed {g g' : Gh} (hi : ∀ b o x, g.bO b o = some x -> g'.bO b o = some x) (hm : ∀ b x, g.bE b = some x -> g'.bE b = some x) : ∀ (x : AV) (v : Value), closed x = true -> aw g x v -> aw g' x v
 | .bool _, _, _, hr => hr
 | .int _ _, _, _, hr => hr
 | .str _, _, _, hr => hr
 | .a7, _, _, hr => hr
 | .ax, _, _, hr => hr
 | .jS, _, _, hr => hr
 | .cX, _, _, hr => hr
 | .cI, _, _, hr => hr
 | .box _ _, _, hc, _ => by cases hc
 | .ms _ _ _ _ _, _, hc, _ => by cases hc
 | .mp _, _, hc, _ => by cases hc
 | .o9 _, _, hc, _ => by cases hc
 | .it _, _, hc, _ => by cases hc
 | .cj l, _, hc, hr => by
   simp only [aw] at hr ⊢
   obtain ⟨aG, off, vs, hv, h1, h2⟩ := hr
   exact ⟨aG, off, vs, hv, fun i u hu => hi _ _ _ (h1 i u hu), aD.closed hi hm l vs hc h2⟩
 | .vec n cap l, _, hc, hr => by
   simp only [aw] at hr ⊢
   obtain ⟨aG, off, c, vs, hv, h1, h2, h3, h4, h5⟩ := hr
   cases cap with
   | own τ => cases hc
   | full => exact ⟨aG, off, c, vs, hv, h1, h2, h3, fun i u hu => hi _ _ _ (h4 i u hu), aD.closed hi hm l vs hc h5⟩
   | hC => exact ⟨aG, off, c, vs, hv, h1, h2, trivial, fun i u hu => hi _ _ _ (h4 i u hu), aD.closed hi hm l vs hc h5⟩
 | .eL ks vs, _, hc, hr => by
   simp only [aw] at hr ⊢
   simp only [Go.Rip.closed, bP] at hc
   obtain ⟨r, es, c, l, hv, he, hp, hs, h1, h2⟩ := hr
   exact ⟨r, es, c, l, hv, hm _ _ he, hp, hs, aD.closed hi hm ks _ hc.1 h1, aD.closed hi hm vs _ hc.2 h2⟩
 | .func fn first captured, _, hc, hr => by
   simp only [aw] at hr ⊢
   simp only [Go.Rip.closed, bP] at hc
   obtain ⟨fs, cs, hv, h1, h2⟩ := hr
   exact ⟨fs, cs, hv, aD.closed hi hm first _ hc.1 h1, aD.closed hi hm captured _ hc.2 h2⟩
 | .iface t x, _, hc, hr => by
   simp only [aw] at hr ⊢
   obtain ⟨u, hv, h1⟩ := hr
   exact ⟨u, hv, aw.closed hi hm x _ hc h1⟩
 | .agg l, _, hc, hr => by
   simp only [aw] at hr ⊢
   obtain ⟨vs, hv, h0, h1⟩ := hr
   exact ⟨vs, hv, h0, aD.closed hi hm l _ hc h1⟩
 | .aO l, _, hc, hr => by
   simp only [aw] at hr ⊢
   obtain ⟨vs, hv, h1⟩ := hr
   exact ⟨vs, hv, aD.closed hi hm l _ hc h1⟩
 | .any, _, _, _ => by simp only [aw]
theorem aD.closed {g g' : Gh} (hi : ∀ b o x, g.bO b o = some x -> g'.bO b o = some x) (hm : ∀ b x, g.bE b = some x -> g'.bE b = some x) : ∀ (l : List AV) (vs : List Value), bG l = true -> aD g l vs -> aD g' l vs
 | [], _, _, hr => by simpa only [aD] using hr
 | x :: xs, _, hc, hr => by
   simp only [aD] at hr ⊢
   simp only [bG, bP] at hc
   obtain ⟨u, us, hv, h1, h2⟩ := hr
   exact ⟨u, us, hv, aw.closed hi hm x _ hc.1 h1, aD.closed hi hm xs _ hc.2 h2⟩
end
def resolve : Nat -> St -> AV -> AV
 | 0, _, _ => .any
 | n + 1, U, x => match x with
   | .box b off => match U.box b with
     | some l => .cj ((l.map (resolve n U)).drop off)
     | none => .any
   | .ms b off k _ _ => match U.box b with
     | some l => .vec k .hC ((l.map (resolve n U)).drop off)
     | none => .any
   | .mp m => match U.mp m with
     | some (ks, vs) => .eL ks (vs.map (resolve n U))
     | none => .any
   | .vec k .full l => .vec k .full (l.map (resolve n U))
   | .vec k _ l => .vec k .hC (l.map (resolve n U))
   | .cj l => .cj (l.map (resolve n U))
   | .eL ks vs => .eL ks (vs.map (resolve n U))
   | .func f a b => .func f (a.map (resolve n U)) (b.map (resolve n U))
   | .iface t v => .iface t (resolve n U v)
   | .agg l => .agg (l.map (resolve n U))
   | .aO l => .aO (l.map (resolve n U))
   | .o9 _ | .it _ => .any
   | x => x
noncomputable def Gh.all (g : Gh) (w : World) : Gh :=
 { g with
  bO := fun q o => if g.base <= q then (match w.cell? ⟨q, o, none⟩ with | some u => if u.oneCell' = true then some u else none | none => none) else g.bO q o
  bE := fun q => if g.base <= q then (match w.heap[q]? with | some (.map es c) => if h : (open Classical in decide (iv es c)) = true then some (es, c) else none | _ => none) else g.bE q }
theorem Fa {g : Gh} {w : World} {q o : Nat} {u : Value} (hq : g.base <= q) (hc : w.cell? ⟨q, o, none⟩ = some u) (h1 : u.oneCell' = true) : (g.all w).bO q o = some u := by
 show (if _ then _ else _) = _
 rw [if_pos hq, hc]; simp [h1]
theorem Cg {g : Gh} {w : World} {q : Nat} {es : Array MapEntry} {c : Nat} (hq : g.base <= q) (hc : w.heap[q]? = some (.map es c)) (h1 : iv es c) : (g.all w).bE q = some (es, c) := by
 show (if _ then _ else _) = _
 rw [if_pos hq, hc]; simp [h1]
theorem aZ.zb {g : Gh} {U : St} {w : World} (h : aZ g U w) : Gh.Le g (g.all w) := by
 refine ⟨rfl, rfl, fun _ _ h => h, fun b o x hx => ?_, fun b x hx => ?_, fun _ h => h, fun b o hb => ?_, fun b hb => ?_⟩
 · by_cases hq : g.base <= b
   · exact Fa hq (h.bO _ _ _ hx).1 (h.bO _ _ _ hx).2
   · show (if _ then _ else _) = _
     rw [if_neg hq]; exact hx
 · by_cases hq : g.base <= b
   · exact Cg hq (h.bE _ _ _ hx).1 (h.bE _ _ _ hx).2
   · show (if _ then _ else _) = _
     rw [if_neg hq]; exact hx
 · show (if _ then _ else _) = _
   rw [if_neg (by omega)]
 · show (if _ then _ else _) = _
   rw [if_neg (by omega)]
theorem te {g : Gh} {U : St} {w : World} (h : aZ g U w) (q o : Nat) (u : Value) (hu : (g.all w).bO q o = some u) : w.cell? ⟨q, o, none⟩ = some u /\ u.oneCell' = true := by
 have hu : (if g.base <= q then (match w.cell? ⟨q, o, none⟩ with | some u => if u.oneCell' = true then some u else none | none => none) else g.bO q o) = some u := hu
 split at hu
 · split at hu
   · rename_i x hx
     split at hu
     · cases hu; exact ⟨hx, by assumption⟩
     · cases hu
   · cases hu
 · exact h.bO _ _ _ hu
theorem rF {g : Gh} {U : St} {w : World} (h : aZ g U w) (q : Nat) (es : Array MapEntry) (c : Nat) (hu : (g.all w).bE q = some (es, c)) : w.heap[q]? = some (.map es c) /\ iv es c := by
 have hu : (if g.base <= q then (match w.heap[q]? with | some (.map es c) => if h : (open Classical in decide (iv es c)) = true then some (es, c) else none | _ => none) else g.bE q) = some (es, c) := hu
 split at hu
 · split at hu
   · rename_i su c' hx
     split at hu
     · rename_i hb
       cases hu; exact ⟨hx, by simpa using hb⟩
     · cases hu
   · cases hu
 · exact h.bE _ _ _ hu
theorem x9 {g g' : Gh} {f : AV -> AV} : ∀ {l : List AV} {vs : List Value}, (∀ x v, x ∈ l -> aw g x v -> aw g' (f x) v) -> aD g l vs -> aD g' (l.map f) vs
 | [], _, _, h => by simpa only [aD, gJ] using h
 | x :: xs, _, hf, h => by
   simp only [aD, dx] at h ⊢
   obtain ⟨u, us, hv, h1, h2⟩ := h
   exact ⟨u, us, hv, hf x u (by simp) h1, x9 (fun y v hy => hf y v (by simp [hy])) h2⟩
theorem xw {g : Gh} {U : St} {w : World} (h : aZ g U w) : ∀ (n : Nat) (x : AV) (v : Value), aw g x v -> aw (g.all w) (resolve n U x) v := by
 intro n
 induction n with
 | zero => intro x v _; simp only [resolve, aw]
 | succ n ih =>
   intro x v hr
   have hl := h.zb
   have ql : ∀ {l : List AV} {vs : List Value}, aD g l vs -> aD (g.all w) (l.map (resolve n U)) vs := fun h => x9 (fun y v _ hy => ih y v hy) h
   have hi : ∀ {aG off : Nat} {vs : List Value}, jf g aG off vs -> jf (g.all w) aG off vs := fun h => h.mono hl
   have box : ∀ {b off : Nat} {l : List AV} {p : Place}, U.box b = some l -> g.place b = some p -> ∃ vs, jf (g.all w) p.aG off vs /\ aD (g.all w) ((l.map (resolve n U)).drop off) vs := fun {b off l p} hb hp => by
    obtain ⟨x', cur, vs, rest, k1, k2, k3, k4, k5, k6, k7, k8⟩ := h.box b l hb
    have k1 : g.place b = some x' := k1
    rw [hp] at k1; cases k1
    refine ⟨vs.drop off, fun i u hu => ?_, (ql k6).drop off⟩
    rw [List.getElem?_drop] at hu
    have aJ : off + i < vs.length := by
     rcases eG (off + i) vs.length with h | h
     · exact h
     · simp [oD h] at hu
    have hc : cur[off + i]? = some u := by rw [<- iH, k5, tW aJ]; exact hu
    exact Fa k2 (by rw [cell_of_row _ _ _ cur p.e (0, 0) k3]; exact hc) (k7 u (fB (by rw [iH]; exact hc)))
   cases x with
   | box b off =>
     simp only [resolve]
     cases hb : U.box b with
     | none => simp only [aw]
     | some l =>
       simp only [aw] at hr ⊢
       obtain ⟨p, hp, rfl⟩ := hr
       obtain ⟨vs, h1, h2⟩ := box (off := off) hb hp
       exact ⟨p.aG, off, vs, rfl, h1, h2⟩
   | ms b off k gy e =>
     simp only [resolve]
     cases hb : U.box b with
     | none => simp only [aw]
     | some l =>
       simp only [aw] at hr ⊢
       obtain ⟨p, c, hp, rfl, q1, q2, _⟩ := hr
       obtain ⟨vs, h1, h2⟩ := box (off := off) hb hp
       exact ⟨p.aG, off, c, vs, rfl, q1, q2, trivial, h1, h2⟩
   | mp m =>
     simp only [resolve]
     cases hm : U.mp m with
     | none => simp only [aw]
     | some kv =>
       obtain ⟨ks, vs⟩ := kv
       simp only [aw] at hr ⊢
       obtain ⟨r, hr, rfl⟩ := hr
       obtain ⟨r', es, clock, q1, q2, q3, qb, ⟨l, q4, q5, q6, q7⟩, q8⟩ := h.mp m _ hm
       rw [hr] at q1; cases q1
       exact ⟨r, es, clock, l, rfl, Cg q2 q3 qb, q4, q5, q6.mono hl, ql q7⟩
   | vec k c l =>
     simp only [aw] at hr
     obtain ⟨aG, off, c', vs, rfl, h1, h2, h3, h4, h5⟩ := hr
     cases c with
     | full => simp only [resolve, aw]; exact ⟨aG, off, c', vs, rfl, h1, h2, h3, hi h4, ql h5⟩
     | own τ => simp only [resolve, aw]; exact ⟨aG, off, c', vs, rfl, h1, h2, trivial, hi h4, ql h5⟩
     | hC => simp only [resolve, aw]; exact ⟨aG, off, c', vs, rfl, h1, h2, trivial, hi h4, ql h5⟩
   | cj l =>
     simp only [resolve, aw] at hr ⊢
     obtain ⟨aG, off, vs, rfl, h1, h2⟩ := hr
     exact ⟨aG, off, vs, rfl, hi h1, ql h2⟩
   | eL ks vs =>
     simp only [resolve, aw] at hr ⊢
     obtain ⟨r, es, c, l, rfl, he, hp, hs, h1, h2⟩ := hr
     exact ⟨r, es, c, l, rfl, hl.bE _ _ he, hp, hs, h1.mono hl, ql h2⟩
   | func f a b =>
     simp only [resolve, aw] at hr ⊢
     obtain ⟨fs, cs, rfl, h1, h2⟩ := hr
     exact ⟨fs, cs, rfl, ql h1, ql h2⟩
   | iface t x =>
     simp only [resolve, aw] at hr ⊢
     obtain ⟨u, rfl, h1⟩ := hr
     exact ⟨u, rfl, ih _ _ h1⟩
   | agg l =>
     simp only [resolve, aw] at hr ⊢
     obtain ⟨vs, rfl, h0, h1⟩ := hr
     exact ⟨vs, rfl, h0, ql h1⟩
   | aO l =>
     simp only [resolve, aw] at hr ⊢
     obtain ⟨vs, rfl, h1⟩ := hr
     exact ⟨vs, rfl, ql h1⟩
   | o9 o => simp only [resolve, aw]
   | it o => simp only [resolve, aw]
   | any => simp only [resolve, aw]
   | bool b => simp only [resolve]; exact hr.mono hl
   | int k n => simp only [resolve]; exact hr.mono hl
   | str s => simp only [resolve]; exact hr.mono hl
   | a7 => simp only [resolve]; exact hr.mono hl
   | ax => simp only [resolve]; exact hr.mono hl
   | jS => simp only [resolve]; exact hr.mono hl
   | cX => simp only [resolve]; exact hr.mono hl
   | cI => simp only [resolve]; exact hr.mono hl
theorem Pure.wz {C : cr} {f : Nat} {args : List AV} {x : AV} (yP : ∀ i, closed (C.u6 i) = true) (hargs : bG args = true) (hx : closed x = true) (d : Nat)
 (h : af C f args (br ⟨.e, 0⟩) (fun r U => ∃ v, r = .ret v /\ resolve d U v = x)) : Pure C f args x := by
 intro U R hR g w vs hs hG ha
 let g0 : Gh := { base := w.heap.size, w0 := w, place := fun _ => none, bO := g.bO, bE := g.bE, res := fun _ => false }
 have qX : aZ g0 (br ⟨.e, 0⟩) w := {
  below := Below.refl _ _
  le := de _
  bO := hs.bO
  bE := hs.bE
  live := fun b x hb => by cases hb
  apart := fun b b' x x' p p' hb => by cases hb
  res := fun r hr => by cases hr
  fin := ⟨0, fun n hn => by cases hn; rfl, fun _ _ => rfl⟩ }
 have Ij : fJ C g0 := ⟨fun i => aw.closed (g := g) (g' := g0) (fun _ _ _ h => h) (fun _ _ h => h) _ _ (yP i) (hG.1 i), fun i cs hi => by
  obtain ⟨k1, t, fr, k2⟩ := hG.2 i cs hi
  refine ⟨Nat.lt_of_lt_of_le k1 hs.le, t, fr, ?_⟩
  show w.heap[i]? = _
  rw [hs.below.block i k1]; exact k2⟩
 have Ur : aD g0 args vs := aD.closed (g := g) (g' := g0) (fun _ _ _ h => h) (fun _ _ h => h) _ _ hargs ha
 refine (h g0 w vs qX Ij Ur).mono ?_
 rintro e w' hp
 cases e with
 | panicked ch => obtain ⟨g', ae, y, v, _, _, _, _, z, hz, _⟩ := hp; cases hz
 | outgrown => exact hp.elim
 | returned v =>
   obtain ⟨g', ae, y, h1, h2, h3, z, hz, hres⟩ := hp
   cases hz
   have bq := xw h2 d y v h3
   rw [hres] at bq
   have qk := h2.zb
   have hle := h1.trans qk
   have abr : g'.base = w.heap.size := h1.base
   have tp : Below w.heap.size w w' := by
    have := h2.below
    rw [h1.base, h1.w0] at this
    exact this
   let gF : Gh := { base := g.base, w0 := g.w0, place := g.place, bO := (g'.all w').bO, bE := (g'.all w').bE, res := g.res }
   have CU : Gh.Le g gF := ⟨rfl, rfl, fun _ _ h => h, fun b o u hu => hle.bO b o u hu, fun b u hu => hle.bE b u hu, fun _ h => h,
    fun b o hb => hle.vr b o (by show b < w.heap.size; have := hs.le; omega), fun b hb => hle.sH b (by show b < w.heap.size; have := hs.le; omega)⟩
   refine ⟨gF, U, x, CU, ?_, aw.closed (g := g'.all w') (g' := gF) (fun _ _ _ h => h) (fun _ _ h => h) x v hx bq, hR⟩
   exact {
    below := hs.below.trans (tp.mono hs.le)
    le := Nat.le_trans hs.le tp.size
    bO := fun q o u hu => te h2 q o u hu
    bE := fun q es c hu => rF h2 q es c hu
    live := fun b l hb => by
     obtain ⟨p, k1, k2, k3⟩ := hs.live b l hb
     have aJ := k3.lt
     exact ⟨p, k1, k2, k3.frame CU.r (tp.block _ aJ) (fun o => hle.vr _ o aJ) (hle.sH _ aJ)⟩
    apart := hs.apart
    res := fun r hr => by
     obtain ⟨k1, k2⟩ := hs.res r hr
     exact ⟨k1, by rw [tp.block _ (iE.1 k2).1]; exact k2⟩
    fin := hs.fin }
def Yj (d : Nat) (x : AV) : KR
 | .ret v, e => gw (resolve d (br e) v) x
 | .panic _, _ => false
theorem Pure.ez {V : fZ} (hV : ot V) (n d : Nat) {f : Nat} {args : List AV} {x : AV} (yP : ∀ i, closed (V.C.u6 i) = true) (h : (bG args && closed x && pD V (kZ V n) f args ⟨.e, 0⟩ (Yj d x)) = true) : Pure V.C f args x := by
 simp only [bP] at h
 refine Pure.wz yP h.1.1 h.1.2 d ((Ug hV n f args ⟨.e, 0⟩ _ h.2).mono ?_)
 rintro r U ⟨e, rfl, hk⟩
 cases r with
 | ret v => exact ⟨v, rfl, sr hk⟩
 | panic v => cases hk
end Go.Rip
namespace Go.Rip
open Go.RowKit
def Pu (R : St -> Prop) : Ex -> Env -> St -> Prop
 | .normal, _, U => R U
 | .ret, _, U => R U
 | _, _, _ => False
theorem R5 {C : cr} {f : FuncId} {fn : Func} {id : Nat} {o : Oper} {d : Nat} {rest : Code} {args : List AV} {U : St} {g : Gh} {w : World} {vs : List Value}
 (hf : C.P.funcs[f]? = some fn) (hb : fn.body = some (.seq (.region id #[o] false) rest)) (hres : fn.results = #[]) (hop : ∀ ev w, (execOp ev o).run C.P w = .ok .recover w) (hd : o.dst = some d) (hdn : d < fn.ntmps) (hg : o.guard = none)
 (hlen : args.length <= fn.ntmps) (hs : aZ g U w) (hG : fJ C g) (ha : aD g args vs) {x : AV} {v : Value} {u u' : FrameMode} (hx : aw g x v)
 (hu : (u = .returning /\ v = .nilIface /\ u' = .returning) \/ (u = .panicking [{ v, recovered := false }] /\ u' = .panicking [{ v, recovered := true }])) (R : St -> Prop)
 (h : bp C fn.ntmps .bare rest (Pu R) ((Env.gG args).put d x) U) :
 CallsDIn Fence.wide 0 C.P f vs.toArray u w (fun e u2 w' => ∃ v', e = .returned v' /\ u2 = u' /\ ∃ g' ae, Gh.Le g g' /\ aZ g' ae w' /\ R ae) := by
 refine callsDIn_of_wpSIn hf hb trivial fun Cw cs hm => ?_
 refine wpSIn_seq (wpSIn_region ?_)
 have hl := ha.length
 have dE : (vs.toArray ++ Array.replicate (fn.ntmps - vs.toArray.size) undef).size = fn.ntmps := by simp; omega
 have Ac : fj g (Env.gG args) (vs.toArray ++ Array.replicate (fn.ntmps - vs.toArray.size) undef) := xG args vs _ ha
 have aar := Ac.put (d := d) (by rw [dE]; exact hdn) hx
 have after : ∀ yC, (yC = { Cw with mode := u' } :: cs) -> rest.wpSIn Fence.wide 0 C.P (bodyPostS C.P fn Cw cs fun e u2 w' => ∃ v', e = .returned v' /\ u2 = u' /\ ∃ g' ae, Gh.Le g g' /\ aZ g' ae w' /\ R ae)
  (Act.put { tmps := vs.toArray ++ Array.replicate (fn.ntmps - vs.toArray.size) undef, defers := [] } o.dst v) yC w := fun yC qf => by
  refine wpSIn_of_wpIn rfl ?_
  have := h g w (Act.put { tmps := vs.toArray ++ Array.replicate (fn.ntmps - vs.toArray.size) undef, defers := [] } o.dst v) none hs hG (by rw [hd]; exact aar) (by rw [(lC _ _ _).2]; exact dE) trivial
  refine wpIn_mono this ?_
  rintro e a w' ⟨q1, g', ae, dv, ms, q2, q3, q4, q5, q6, q7⟩
  have vj : ms = [] := q3.none rfl
  subst vj
  rw [(lC _ _ _).1] at q2
  simp only [gJ, jc] at q2
  have hr : ∀ tmps, (results fn tmps).run C.P w' = .ok (.tuple #[]) w' := fun tmps => by
   unfold results
   rw [hres]
   simp
  cases e with
  | normal => exact ⟨q2, u', qf, _, hr _, _, rfl, rfl, g', ae, q4, q5, q7⟩
  | ret => exact ⟨q2, u', qf, _, hr _, _, rfl, rfl, g', ae, q4, q5, q7⟩
  | exit id => exact q7.elim
  | panic ch => obtain ⟨_, _, _, _, hf⟩ := q7; exact hf.elim
  | goto l => exact q7.elim
  | outgrown => exact q7.elim
 have hw : Region.wanted o (yielded #[o] (vs.toArray ++ Array.replicate (fn.ntmps - vs.toArray.size) undef)) = true := by simp [Region.wanted, hg]
 show wpOpsSIn Fence.wide 0 C.P #[o] _ [0] _ _ _
 simp only [wpOpsSIn, List.getElem?_toArray, List.getElem?_cons_zero, hw, if_true, hop]
 refine ⟨fun _ _ => trivial, ?_⟩
 rcases hu with ⟨rfl, rfl, rfl⟩ | ⟨rfl, rfl⟩
 · have e1 : recoverD (Cw :: cs) = none := by simp [recoverD, hm]
   rw [e1]
   exact after _ (by rw [<- hm])
 · have e1 : recoverD (Cw :: cs) = some (v, { Cw with mode := .panicking [{ v, recovered := true }] } :: cs) := by simp [recoverD, hm]
   rw [e1]
   exact after _ rfl
end Go.Rip
