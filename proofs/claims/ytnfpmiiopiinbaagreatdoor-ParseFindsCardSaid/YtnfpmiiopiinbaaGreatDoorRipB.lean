/- Lemmas for the proof: no conditions. -/
import Derived.Test.YtnfpmiiopiinbaaGreatDoorRipZz
import Derived.Test.YtnfpmiiopiinbaaGreatDoorRipA
import Derived.OrdersIn
import Derived.RecoverIn
set_option linter.unusedVariables false
set_option linter.unusedSimpArgs false
set_option linter.loopingSimpArgs false
namespace Go.Rip
open Go.RowKit
inductive cB where
 | ret (x : AV)
 | panic (x : AV)
inductive Ex where
 | normal
 | exit (id : Nat)
 | ret
 | panic (x : AV)
def FW (ro : Option Nat) : Fence := { Fence.wide with round := ro }
def l9 (g : Gh) (R : cB -> St -> Prop) : Ending -> World -> Prop
 | .returned v, w' => ∃ g' ae x, Gh.Le g g' /\ aY g' ae w' /\ ay g' x v /\ R (.ret x) ae
 | .panicked ch, w' => ∃ g' ae x v, ch = [{ v, recovered := false }] /\ Gh.Le g g' /\ aY g' ae w' /\ ay g' x v /\ R (.panic x) ae
 | .outgrown, _ => False
def af (C : cu) (f : FuncId) (args : List AV) (U : St) (R : cB -> St -> Prop) : Prop :=
 ∀ g w vs, aY g U w -> fP C g -> aD g args vs -> CallsIn Fence.wide 0 C.P f (List.toArray vs) w (l9 g R)
def jK (C : cu) (o : Nat) (args : List AV) (U : St) (R : cB -> St -> Prop) : Prop :=
 ∀ g w vs x, aY g U w -> fP C g -> aD g args vs -> g.place o = some x -> ∃ fn tmps assign body, (Instr.yield x.aH (List.toArray vs)).run C.P w = .ok (.round x.aH fn tmps assign body) w /\
  RoundIn Fence.wide 0 C.P x.aH fn tmps assign body w (l9 g R)
theorem l9.mono {g : Gh} {R R' : cB -> St -> Prop} {e : Ending} {w : World} (h : l9 g R e w) (hr : ∀ r U, R r U -> R' r U) : l9 g R' e w := by
 cases e with
 | returned v => obtain ⟨g', ae, x, h1, h2, h3, h4⟩ := h; exact ⟨g', ae, x, h1, h2, h3, hr _ _ h4⟩
 | panicked ch => obtain ⟨g', ae, x, v, h0, h1, h2, h3, h4⟩ := h; exact ⟨g', ae, x, v, h0, h1, h2, h3, hr _ _ h4⟩
 | outgrown => exact h
theorem af.mono {C : cu} {f : FuncId} {args : List AV} {U : St} {R R' : cB -> St -> Prop} (h : af C f args U R) (hr : ∀ r U, R r U -> R' r U) : af C f args U R' :=
 fun g w vs hs hG ha => (h g w vs hs hG ha).mono fun _ _ hp => hp.mono hr
theorem jK.mono {C : cu} {f : Nat} {args : List AV} {U : St} {R R' : cB -> St -> Prop} (h : jK C f args U R) (hr : ∀ r U, R r U -> R' r U) : jK C f args U R' :=
 fun g w vs x hs hG ha hx => let ⟨a, b, c, d, e, r⟩ := h g w vs x hs hG ha hx; ⟨a, b, c, d, e, r.mono fun _ _ hp => hp.mono hr⟩
def au (K : AV -> St -> Prop) (Kp : AV -> St -> Prop) : cB -> St -> Prop
 | .ret x, U => K x U
 | .panic x, U => Kp x U
def av.wp (C : cu) (U : St) (K : AV -> St -> Prop) (Kp : AV -> St -> Prop) : av -> Prop
 | .val v => K v U
 | .jD v b x => K v (U.set b x)
 | .new k del x => ∀ b, (U.pn del).cQ b -> K (k.at b) ((U.pn del).new b x)
 | .ji b l => ∀ p ∈ l, K p.1 (U.set b p.2)
 | .enter f args => af C f args U (au K Kp)
 | .yield l args => jK C l args U (au K Kp)
 | .panic v => Kp v U
 | @av.cond p _ r => p /\ r.wp C U K Kp
 | .bad => False
def fV (ops : Array Oper) (ρ : Env) : Option (Nat × Bool) -> AV
 | none => .bool true
 | some (j, want) => match (ops[j]?).bind (·.dst) with
   | some d => match ρ.get d with
     | .bool b => .bool (b == want)
     | .aQ [] => .bool false
     | _ => .any
   | none => .any
def ao : AV -> Prop -> Prop -> Prop
 | .bool b, A, B => (b = true -> A) /\ (b = false -> B)
 | _, _, _ => False
def mz (C : cu) (mu : List Nat) (ops : Array Oper) : List Oper -> Env -> St -> (Env -> St -> Prop) -> (AV -> St -> Prop) -> Prop
 | [], ρ, U, K, _ => K ρ U
 | o :: rest, ρ, U, K, Kp => ao (fV ops ρ o.guard)
    ((gN C (match o.dst with | some d => mu.contains d | none => false) o.op ρ U).wp C U (fun v ae => mz C mu ops rest (ρ.dO o.dst v) ae K Kp) Kp)
    (mz C mu ops rest (ρ.dO o.dst (.aQ [])) U K Kp)
def BX (r : Nat) : Deferred := { target := .collected r, args := #[] }
def CC (g : Gh) (Q : Ex -> Env -> St -> Prop) (ρ : Env) (U : St) : Exit -> Prop
 | .normal => Q .normal ρ U
 | .exit id => Q (.exit id) ρ U
 | .ret => Q .ret ρ U
 | .panic ch => ∃ x v, ch = [{ v, recovered := false }] /\ ay g x v /\ Q (.panic x) ρ U
 | .goto _ => False
 | .outgrown => False
inductive Ro where
 | fn
 | bare
 | round (o : Nat)
def Ro.nm : Ro -> Bool
 | .bare => true
 | _ => false
structure lW (nm : Bool) (g g' : Gh) (ms : List Nat) : Prop where
 none : nm = true -> ms = []
 nodup : ms.Nodup
 res : ∀ r ∈ ms, g'.res r = true /\ g.res r = false
theorem ju (nm : Bool) (g g' : Gh) : lW nm g g' [] := ⟨fun _ => rfl, List.nodup_nil, by simp⟩
theorem lW.append {nm : Bool} {g g1 g2 : Gh} {m1 m2 : List Nat} (h1 : lW nm g g1 m1) (h2 : lW nm g1 g2 m2) (l1 : Gh.Le g g1) (l2 : Gh.Le g1 g2) : lW nm g g2 (m2 ++ m1) := by
 refine ⟨fun h => by rw [h1.none h, h2.none h]; rfl, List.nodup_append.2 ⟨h2.nodup, h1.nodup, fun x hx y hy e => ?_⟩, fun r hr => ?_⟩
 · subst e
   have := (h2.res x hx).2
   rw [(h1.res x hy).1] at this; cases this
 · simp only [fC] at hr
   rcases hr with hr | hr
   · refine ⟨(h2.res r hr).1, ?_⟩
     cases e : g.res r with
     | false => rfl
     | true => have := (h2.res r hr).2; rw [l1.res _ e] at this; cases this
   · exact ⟨l2.res _ (h1.res r hr).1, (h1.res r hr).2⟩
def n7 (g : Gh) (nt : Nat) (nm : Bool) (ds : List Deferred) (Q : Ex -> Env -> St -> Prop) (e : Exit) (a : Act) (w : World) : Prop :=
 a.tmps.size = nt /\ ∃ g' U ρ ms, a.defers = ms.map BX ++ ds /\ lW nm g g' ms /\ Gh.Le g g' /\ aY g' U w /\ fg g' ρ a.tmps /\ CC g' Q ρ U e
def Cc (g : Gh) : Ro -> Option Nat -> Prop
 | .fn, none => True
 | .bare, none => True
 | .round o, some l => ∃ x, g.place o = some x /\ x.aH = l
 | _, _ => False
theorem Cc.mono {g g' : Gh} (h : Gh.Le g g') {ro : Ro} {fr : Option Nat} (hr : Cc g ro fr) : Cc g' ro fr := by
 cases ro <;> cases fr <;> simp only [Cc] at hr ⊢
 obtain ⟨x, h1, h2⟩ := hr
 exact ⟨x, h.place _ _ h1, h2⟩
def bz (C : cu) (nt : Nat) (ro : Ro) (c : Code) (Q : Ex -> Env -> St -> Prop) (ρ : Env) (U : St) : Prop :=
 ∀ g w a fr, aY g U w -> fP C g -> fg g ρ a.tmps -> a.tmps.size = nt -> Cc g ro fr -> c.wpIn (FW fr) 0 C.P (n7 g nt ro.nm a.defers Q) a w
section
variable {C : cu} {g : Gh} {U : St} {w : World} {nt : Nat} {nm : Bool} {ro : Ro} {Q : Ex -> Env -> St -> Prop} {ρ : Env}
theorem CC.mono {Q' : Ex -> Env -> St -> Prop} {e : Exit} (h : CC g Q ρ U e) (hq : ∀ e ρ U, Q e ρ U -> Q' e ρ U) : CC g Q' ρ U e := by
 cases e <;> first
  | exact hq _ _ _ h
  | (obtain ⟨x, v, h1, h2, h3⟩ := h; exact ⟨x, v, h1, h2, hq _ _ _ h3⟩)
  | exact h
theorem bz.mono {c : Code} {Q' : Ex -> Env -> St -> Prop} (h : bz C nt ro c Q ρ U) (hq : ∀ e ρ U, Q e ρ U -> Q' e ρ U) : bz C nt ro c Q' ρ U :=
 fun g w a fr h1 h2 h3 h4 qs => wpIn_mono (h g w a fr h1 h2 h3 h4 qs) fun e a' w' ⟨k1, g', ae, dv, ms, k2, k3, k4, k5, k6, k7⟩ => ⟨k1, g', ae, dv, ms, k2, k3, k4, k5, k6, k7.mono hq⟩
theorem n7.back {g' : Gh} {ds : List Deferred} {ms : List Nat} {e : Exit} {a : Act} (h : n7 g' nt nm (ms.map BX ++ ds) Q e a w) (vj : lW nm g g' ms) (hle : Gh.Le g g') : n7 g nt nm ds Q e a w := by
 obtain ⟨k1, g2, ae, dv, Dw, k2, k3, k4, k5, k6, k7⟩ := h
 exact ⟨k1, g2, ae, dv, Dw ++ ms, by rw [k2, List.map_append, pw], vj.append k3 hle k4, hle.trans k4, k5, k6, k7⟩
def VO (K : Env -> St -> Prop) (Q : Ex -> Env -> St -> Prop) : Ex -> Env -> St -> Prop
 | .normal, ρ, U => K ρ U
 | e, ρ, U => Q e ρ U
theorem bz.seq {x y : Code} (h : bz C nt ro x (VO (fun ρ U => bz C nt ro y Q ρ U) Q) ρ U) : bz C nt ro (.seq x y) Q ρ U := by
 intro g w a fr h1 h2 h3 h4 qs
 refine wpIn_seq (wpIn_mono (h g w a fr h1 h2 h3 h4 qs) ?_)
 rintro e a' w' ⟨k1, g', ae, dv, ms, k2, k3, k4, k5, k6, k7⟩
 cases e with
 | normal =>
   have := k7 g' w' a' fr k5 (h2.mono k4) k6 k1 (qs.mono k4)
   rw [k2] at this
   exact wpIn_mono this fun e a w hp => hp.back k3 k4
 | exit id => exact ⟨k1, g', ae, dv, ms, k2, k3, k4, k5, k6, k7⟩
 | ret => exact ⟨k1, g', ae, dv, ms, k2, k3, k4, k5, k6, k7⟩
 | panic ch => exact ⟨k1, g', ae, dv, ms, k2, k3, k4, k5, k6, k7⟩
 | goto l => exact k7.elim
 | outgrown => exact k7.elim
theorem vH {a : Act} {ds : List Deferred} {e : Exit} (h : aY g U w) (hr : fg g ρ a.tmps) (hn : a.tmps.size = nt) (hd : a.defers = ds) (hq : CC g Q ρ U e) : n7 g nt nm ds Q e a w :=
 ⟨hn, g, U, ρ, [], by simpa using hd, ju _ _ _, Gh.Le.refl g, h, hr, hq⟩
theorem bz.skip (h : Q .normal ρ U) : bz C nt ro .skip Q ρ U := fun g w a fr h1 h2 h3 h4 _ => wpIn_skip (vH h1 h3 h4 rfl h)
theorem bz.exit {id : Nat} (h : Q (.exit id) ρ U) : bz C nt ro (.exit id) Q ρ U := fun g w a fr h1 h2 h3 h4 _ => wpIn_exit (vH h1 h3 h4 rfl h)
theorem bz.ret (h : Q .ret ρ U) : bz C nt ro .ret Q ρ U := fun g w a fr h1 h2 h3 h4 _ => wpIn_ret (vH h1 h3 h4 rfl h)
theorem bz.cond {c : Operand} {x y : Code} {b : Bool} (hc : ρ.ev C c = .bool b) (h1 : b = true -> bz C nt ro x Q ρ U) (h2 : b = false -> bz C nt ro y Q ρ U) : bz C nt ro (.cond c x y) Q ρ U := by
 intro g w a fr k1 k2 k3 k4 k5
 have := qn k2 k3 c
 rw [hc] at this
 simp only [ay] at this
 exact wpIn_cond_split this (fun e => h1 e g w a fr k1 k2 k3 k4 k5) (fun e => h2 e g w a fr k1 k2 k3 k4 k5)
theorem bz.XA {c : Operand} {x y : Code} (hc : ρ.ev C c = .bool true) (h1 : bz C nt ro x Q ρ U) : bz C nt ro (.cond c x y) Q ρ U := bz.cond hc (fun _ => h1) (fun h => by cases h)
theorem bz.Xz {c : Operand} {x y : Code} (hc : ρ.ev C c = .bool false) (h1 : bz C nt ro y Q ρ U) : bz C nt ro (.cond c x y) Q ρ U := bz.cond hc (fun h => by cases h) (fun _ => h1)
def uU (id : Nat) (Q : Ex -> Env -> St -> Prop) : Ex -> Env -> St -> Prop
 | .exit xg, ρ, U => if xg = id then Q .normal ρ U else Q (.exit xg) ρ U
 | e, ρ, U => Q e ρ U
theorem bz.block {id : Nat} {c : Code} (h : bz C nt ro c (uU id Q) ρ U) : bz C nt ro (.block id c) Q ρ U := by
 intro g w a fr h1 h2 h3 h4 qs
 refine wpIn_block (wpIn_mono (h g w a fr h1 h2 h3 h4 qs) ?_)
 rintro e a' w' ⟨k1, g', ae, dv, ms, k2, k3, k4, k5, k6, k7⟩
 cases e with
 | normal => exact ⟨k1, g', ae, dv, ms, k2, k3, k4, k5, k6, k7⟩
 | exit xg =>
   have k7 : uU id Q (.exit xg) dv ae := k7
   simp only [uU] at k7
   simp only [Exit.inBlock]
   split
   · rename_i e; rw [if_pos e] at k7; exact ⟨k1, g', ae, dv, ms, k2, k3, k4, k5, k6, k7⟩
   · rename_i e; rw [if_neg e] at k7; exact ⟨k1, g', ae, dv, ms, k2, k3, k4, k5, k6, k7⟩
 | ret => exact ⟨k1, g', ae, dv, ms, k2, k3, k4, k5, k6, k7⟩
 | panic ch => exact ⟨k1, g', ae, dv, ms, k2, k3, k4, k5, k6, k7⟩
 | goto l => exact k7.elim
 | outgrown => exact k7.elim
theorem bz.loop {c : Code} (I : Nat -> Env -> St -> Prop) {n : Nat} (h0 : I n ρ U) (round : ∀ n ρ U, I n ρ U -> bz C nt ro c (VO (fun dv ae => ∃ m, m < n /\ I m dv ae) Q) ρ U) : bz C nt ro (.loop c) Q ρ U := by
 intro g w a fr h1 h2 h3 h4 qs
 let J : Nat -> Act -> World -> Prop := fun n a' w' => a'.tmps.size = nt /\ ∃ g' ae dv ms, a'.defers = ms.map BX ++ a.defers /\ lW ro.nm g g' ms /\ Gh.Le g g' /\ aY g' ae w' /\ fg g' dv a'.tmps /\ I n dv ae
 have ex : ∀ a' w', (∃ n, J n a' w') -> ∃ n, J n a' w' /\ ∀ m, m < n -> ¬ J m a' w' := fun a' w' ⟨n, hn⟩ => by
  induction n using Nat.strongRecOn with
  | _ n ih =>
    by_cases hm : ∃ m, m < n /\ J m a' w'
    · obtain ⟨m, FF, PS⟩ := hm; exact ih m FF PS
    · exact ⟨n, hn, fun m FF PS => hm ⟨m, FF, PS⟩⟩
 classical
 let μ : Act -> World -> Nat := fun a' w' => if h : ∃ n, J n a' w' then (ex a' w' h).choose else 0
 have Zp : ∀ a' w', (∃ n, J n a' w') -> J (μ a' w') a' w' /\ ∀ m, m < μ a' w' -> ¬ J m a' w' := fun a' w' h => by
  have := (ex a' w' h).choose_spec
  simp only [μ, dif_pos h]; exact this
 refine wpIn_loop (fun a' w' => ∃ n, J n a' w') μ ⟨n, h4, g, U, ρ, [], by simp, ju _ _ _, Gh.Le.refl g, h1, h3, h0⟩ ?_
 intro a' w' hJ
 obtain ⟨⟨k1, g', ae, dv, ms, k2, k3, k4, k5, k6, k7⟩, _⟩ := Zp a' w' hJ
 refine wpIn_mono (round _ dv ae k7 g' w' a' fr k5 (h2.mono k4) k6 k1 (qs.mono k4)) ?_
 intro e a2 w2 hp
 rw [k2] at hp
 have hp := hp.back k3 k4
 obtain ⟨q1, g2, bX, pk, Dw, q2, q3, q4, q5, q6, q7⟩ := hp
 cases e with
 | normal =>
   obtain ⟨m, hm, hI⟩ := q7
   have Ul : J m a2 w2 := ⟨q1, g2, bX, pk, Dw, q2, q3, q4, q5, q6, hI⟩
   refine ⟨⟨m, Ul⟩, ?_⟩
   have := (Zp a2 w2 ⟨m, Ul⟩).2
   rcases eD (μ a2 w2) (μ a' w') with h | h
   · exact h
   · exact absurd Ul (this m (by omega))
 | exit id => exact ⟨q1, g2, bX, pk, Dw, q2, q3, q4, q5, q6, q7⟩
 | ret => exact ⟨q1, g2, bX, pk, Dw, q2, q3, q4, q5, q6, q7⟩
 | panic ch => exact ⟨q1, g2, bX, pk, Dw, q2, q3, q4, q5, q6, q7⟩
 | goto l => exact q7.elim
 | outgrown => exact q7.elim
end
end Go.Rip
namespace Go.Rip
open Go.RowKit
section
variable {C : cu} {g : Gh} {U : St} {w : World} {nt : Nat} {nm : Bool} {ro : Ro} {fr : Option Nat} {Q : Ex -> Env -> St -> Prop} {ρ : Env}
def xS (nt : Nat) (o : Oper) : Bool :=
 (match o.dst with | some d => decide (d < nt) | none => true) && (match o.op with | .defer _ => false | _ => true)
def kx (nt : Nat) (ops : Array Oper) : Bool := ops.toList.all (xS nt)
theorem wV {ops : Array Oper} {a : Act} (hr : fg g ρ a.tmps) {o : Oper} {b : Bool} (h : fV ops ρ o.guard = .bool b) : Region.wanted o (yielded ops a.tmps) = b := by
 unfold fV at h
 unfold Region.wanted
 cases hg : o.guard with
 | none => simp [hg] at h; simp [h]
 | some jw =>
   obtain ⟨j, want⟩ := jw
   simp only [hg] at h ⊢
   split at h
   · rename_i d hd
     split at h
     · rename_i b' hb
       simp only [AV.bool.injEq] at h
       subst h
       have := hr d
       rw [hb] at this
       simp only [ay] at this
       have po : a.tmps[d]? = some (.bool b') := by
        rw [Array.getD_eq_getD_getElem?] at this
        cases ht : a.tmps[d]? with
        | none => rw [ht] at this; simp [undef] at this
        | some v => rw [ht] at this; simp at this; rw [this]
       unfold yielded
       rw [hd]
       simp only [Option.bind_some, po]
       cases b' <;> cases want <;> rfl
     · rename_i hb
       simp only [AV.bool.injEq] at h
       subst h
       have := hr d
       rw [hb] at this
       simp only [ay, aD] at this
       obtain ⟨vs, this, rfl⟩ := this
       have po : ∀ b, a.tmps[d]? ≠ some (.bool b) := fun b dQ => by
        rw [Array.getD_eq_getD_getElem?, dQ] at this
        simp at this
       unfold yielded
       rw [hd]
       simp only [Option.bind_some]
       first
        | rfl
        | (split
           · rename_i b' dQ; exact absurd dQ (po _)
           · rfl)
     · cases h
   · cases h
theorem lJ (a : Act) (dst : Option Tmp) (v : Value) : (a.put dst v).defers = a.defers /\ (a.put dst v).tmps.size = a.tmps.size := by
 cases dst <;> simp [Act.put]
theorem fg.dO {a : Act} (hr : fg g ρ a.tmps) {dst : Option Tmp} {x : AV} {v : Value} (hd : ∀ d, dst = some d -> d < a.tmps.size) (hx : ay g x v) : fg g (ρ.dO dst x) (a.put dst v).tmps := by
 cases dst with
 | none => exact hr
 | some d => exact hr.put (hd d rfl) hx
theorem rE : ay g (.aQ []) undef := by simp only [ay]; exact ⟨[], rfl, by simp [aD]⟩
def KQ (Q : Ex -> Env -> St -> Prop) : Env -> St -> Prop := fun ρ U => Q .normal ρ U
def uM (Q : Ex -> Env -> St -> Prop) : AV -> St -> Prop := fun x U => ∀ ρ, Q (.panic x) ρ U
theorem ni {o : Oper} (cD : xS nt o = true) {mu : Bool} {K : AV -> St -> Prop} {Kp : AV -> St -> Prop} {ds : List Deferred} {next : Act -> World -> Prop} {a : Act}
 (hs : aY g U w) (hG : fP C g) (hr : fg g ρ a.tmps) (hn : a.tmps.size = nt)
 (h : (gN C mu o.op ρ U).wp C U K Kp)
 (lY : ∀ g' ae w' x v, Gh.Le g g' -> aY g' ae w' -> ay g' x v -> K x ae -> next (a.put o.dst v) w')
 {QQ : Exit -> Act -> World -> Prop} (C2 : ∀ g' ae w' x v, Gh.Le g g' -> aY g' ae w' -> ay g' x v -> Kp x ae -> QQ (.panic [{ v, recovered := false }]) a w') :
 o.wpIn (FW fr) 0 C.P a w next QQ := by
 refine ⟨fun _ _ => trivial, ?_⟩
 have NM : ∀ c, o.op ≠ .defer c := fun c e => by simp [xS, e] at cD
 rw [Oper.semAt_eq _ _ _ NM]
 have fits := N7 (C := C) hs hG hr mu o
 generalize hres : (execOp a.eval o).run C.P w = res at fits ⊢
 generalize gN C mu o.op ρ U = r at fits h
 have val : ∀ {x ae}, (∃ u w' g', (res = .ok (.value u) w' \/ (res = .ok .skip w' /\ u = undef)) /\ Gh.Le g g' /\ aY g' ae w' /\ ay g' x u) -> K x ae -> o.uponIn (FW fr) 0 C.P a next QQ res := by
  rintro x ae ⟨u, w', g', hu, hle, dA, hx⟩ hk
  rcases hu with rfl | ⟨rfl, rfl⟩
  · exact lY g' ae w' x u hle dA hx hk
  · exact lY g' ae w' x undef hle dA hx hk
 induction r with
 | val v => exact val fits h
 | jD v b x => exact val fits h
 | new k del x => obtain ⟨u, w', g', b, rfl, hb, hle, dA, hx⟩ := fits; exact lY g' _ w' _ u hle dA hx (h b hb)
 | ji b l => obtain ⟨u, w', g', v, x, rfl, hm, hle, dA, hx⟩ := fits; exact lY g' _ w' _ u hle dA hx (h (v, x) hm)
 | enter f args =>
   obtain ⟨vs, w', rfl, dA, ha⟩ := fits
   refine ⟨fun hd => by simp [FW, Fence.wide] at hd, ?_⟩
   have hc : CallsIn (FW fr) 0 C.P f (List.toArray vs) w' (l9 g (au K Kp)) := h g w' vs dA hG ha
   refine hc.mono ?_
   rintro e w2 hp
   cases e with
   | returned v => obtain ⟨g', ae, x, h1, h2, h3, h4⟩ := hp; exact lY g' ae w2 x v h1 h2 h3 h4
   | panicked ch => obtain ⟨g', ae, x, v, rfl, h1, h2, h3, h4⟩ := hp; exact C2 g' ae w2 x v h1 h2 h3 h4
   | outgrown => exact hp.elim
 | yield l args =>
   obtain ⟨vs, x, w0, w', hx, rfl, rfl, dA, ha⟩ := fits
   obtain ⟨fn, tmps, assign, body, hy, hR⟩ := h g w' vs x dA hG ha hx
   rw [hy]
   refine ⟨fun hd => by simp [FW, Fence.wide] at hd, ?_⟩
   have hc : RoundIn (FW fr) 0 C.P x.aH fn tmps assign body w' (l9 g (au K Kp)) := hR
   refine hc.mono ?_
   rintro e w2 hp
   cases e with
   | returned v => obtain ⟨g', ae, x, h1, h2, h3, h4⟩ := hp; exact lY g' ae w2 x v h1 h2 h3 h4
   | panicked ch => obtain ⟨g', ae, x, v, rfl, h1, h2, h3, h4⟩ := hp; exact C2 g' ae w2 x v h1 h2 h3 h4
   | outgrown => exact hp.elim
 | panic v => obtain ⟨u, w', rfl, dA, hx⟩ := fits; exact C2 g _ w' v u (Gh.Le.refl g) dA hx h
 | cond p r ih => exact ih (fits h.1) h.2
 | bad => exact h.elim
theorem tR {mu : List Nat} {ops : Array Oper} (cD : kx nt ops = true) (g0 : Gh) : ∀ (l : List Nat) (g : Gh) (U : St) (w : World) (ρ : Env) (a : Act) (ds : List Deferred), Gh.Le g0 g -> aY g U w -> fP C g -> fg g ρ a.tmps -> a.tmps.size = nt -> a.defers = ds ->
 mz C mu ops (l.filterMap (ops[·]?)) ρ U (KQ Q) (uM Q) -> wpOpsIn (FW fr) 0 C.P ops (n7 g0 nt nm ds Q) l a w
 | [], g, U, w, ρ, a, ds, h0, hs, hG, hr, hn, hd, h => by
   simp only [wpOpsIn]
   exact ⟨hn, g, U, ρ, [], by simpa using hd, ju _ _ _, h0, hs, hr, h⟩
 | i :: rest, g, U, w, ρ, a, ds, h0, hs, hG, hr, hn, hd, h => by
   simp only [wpOpsIn]
   cases ho : ops[i]? with
   | none =>
     simp only [List.filterMap_cons, ho] at h
     exact tR cD g0 rest g U w ρ a ds h0 hs hG hr hn hd h
   | some o =>
     dsimp only
     simp only [List.filterMap_cons, ho, mz] at h
     have kj : o ∈ ops.toList := by
      have := fi (l := ops.toList) (i := i) (a := o) (by rw [iH]; exact ho)
      exact this
     have C1 : xS nt o = true := by
      unfold kx at cD
      rw [dJ] at cD
      exact cD o kj
     have NN : ∀ d, o.dst = some d -> d < a.tmps.size := fun d pB => by
      simp only [xS, pB, bN, cP] at C1
      rw [hn]; exact C1.1
     have go : ∀ g' ae w' x v, Gh.Le g g' -> aY g' ae w' -> ay g' x v -> mz C mu ops (rest.filterMap (ops[·]?)) (ρ.dO o.dst x) ae (KQ Q) (uM Q) -> wpOpsIn (FW fr) 0 C.P ops (n7 g0 nt nm ds Q) rest (a.put o.dst v) w' := fun g' ae w' x v hle dA hx hk =>
      tR cD g0 rest g' ae w' (ρ.dO o.dst x) (a.put o.dst v) ds (h0.trans hle) dA (hG.mono hle) ((hr.mono hle).dO NN hx) (by rw [(lJ a o.dst v).2]; exact hn) (by rw [(lJ a o.dst v).1]; exact hd) hk
     cases IL : fV ops ρ o.guard <;> rw [IL] at h <;> simp only [ao] at h
     rename_i b
     have hw := wV hr IL
     cases b
     · rw [if_neg (by rw [hw]; simp)]
       exact ⟨fun _ _ => trivial, go g U w (.aQ []) undef (Gh.Le.refl g) hs rE (h.2 rfl)⟩
     · rw [if_pos hw]
       refine ni C1 hs hG hr hn (h.1 rfl) go ?_ (ds := ds)
       intro g' ae w' x v hle dA hx hk
       exact ⟨hn, g', ae, ρ, [], by simpa using hd, ju _ _ _, h0.trans hle, dA, hr.mono hle, x, v, rfl, hx, hk ρ⟩
theorem zf (ops : Array Oper) : (List.range ops.size).filterMap (ops[·]?) = ops.toList := by
 apply List.ext_getElem?
 intro i
 have : ∀ n, n <= ops.size -> (List.range n).filterMap (ops[·]?) = ops.toList.take n := fun n => by
  induction n with
  | zero => intro _; simp
  | succ n ih =>
    intro hn
    rw [List.range_succ, List.filterMap_append, ih (by omega), od]
    have : ops[n]? = some ops[n] := by simp
    simp [this]
 rw [this ops.size (df _), pt (by simp)]
theorem bz.region {id : Nat} {ops : Array Oper} (mu : List Nat) (cD : kx nt ops = true) (h : mz C mu ops ops.toList ρ U (KQ Q) (uM Q)) : bz C nt ro (.region id ops false) Q ρ U := by
 intro g w a fr h1 h2 h3 h4 qs
 exact wpIn_region (tR cD g (List.range ops.size) g U w ρ a a.defers (Gh.Le.refl g) h1 h2 h3 h4 rfl (by rw [zf]; exact h))
end
end Go.Rip
namespace Go.Rip
open Go.RowKit
def lA (x : AV) (U : St) (x' : AV) (ae : St) : Prop := ∀ g w v, aY g U w -> ay g x v -> ∃ g', Gh.Le g g' /\ aY g' ae w /\ ay g' x' v
theorem lA.refl (x : AV) (U : St) : lA x U x U := fun g w v h hr => ⟨g, Gh.Le.refl g, h, hr⟩
theorem lA.trans {x y z : AV} {a b c : St} (h : lA x a y b) (k : lA y b z c) : lA x a z c := fun g w v hs hr =>
 let ⟨g1, l1, s1, r1⟩ := h g w v hs hr
 let ⟨g2, l2, s2, r2⟩ := k g1 w v s1 r1
 ⟨g2, l1.trans l2, s2, r2⟩
theorem lA.weaken (x : AV) {U ae : St} (h : St.Le ae U) : lA x U x ae := fun g w v hs hr => ⟨g, Gh.Le.refl g, hs.weaken h, hr⟩
theorem lA.freeze {b : Nat} {U : St} {l : List AV} (hb : U.box b = some l) : lA (.box b 0) U (.cj l) (U.del b) := fun g w v hs hr => by
 simp only [ay] at hr
 obtain ⟨x, hx, rfl⟩ := hr
 obtain ⟨g', vs, hle, _, hi, hl, dA⟩ := hs.freeze hb hx
 exact ⟨g', hle, dA, by simp only [ay]; exact ⟨x.aH, 0, vs, rfl, hi, hl.mono hle⟩⟩
def wx (P : Program) (t : TypeId) (p : AV) (U : St) (k : AV -> Prop) : Prop :=
 match rn P t p U with
 | .val v => k v
 | @av.cond q _ (.val v) => q /\ k v
 | _ => False
def sb (P : Program) (ρ : Env) (U : St) : List ResultVar -> (List AV -> Prop) -> Prop
 | [], k => k []
 | .tmp t :: rs, k => sb P ρ U rs fun vs => k (ρ.get t :: vs)
 | .cell t ty :: rs, k => wx P ty (ρ.get t) U fun v => sb P ρ U rs fun vs => k (v :: vs)
def sf : List AV -> AV
 | [x] => x
 | l => .aQ l
def aaN (P : Program) (fn : Func) (R : cB -> St -> Prop) : Ex -> Env -> St -> Prop
 | .normal, ρ, U | .ret, ρ, U => sb P ρ U fn.results.toList fun vs => ∃ x ae, lA (sf vs) U x ae /\ R (.ret x) ae
 | .panic x, _, U => R (.panic x) U
 | .exit _, _, _ => False
def Env.gM (args : List AV) : Env := ⟨fun t => args.getD t (.aQ [])⟩
section
variable {C : cu} {g : Gh} {U : St} {w : World} {nt : Nat} {ro : Ro} {Q : Ex -> Env -> St -> Prop} {ρ : Env}
theorem Jw (h : aY g U w) {t : TypeId} {p : AV} {v : Value} (hp : ay g p v) {k : AV -> Prop} (hk : wx C.P t p U k) : ∃ u x, (do loadVar t (<- asAddr v) : Sem Value).run C.P w = .ok u w /\ ay g x u /\ k x := by
 unfold wx rn at hk
 cases hv : lh C.P t with
 | none => simp [hv] at hk
 | some bs =>
   obtain ⟨b, sz⟩ := bs
   cases hl : jL U p with
   | none => rw [hv, hl] at hk; cases b <;> simp at hk
   | some l =>
     rw [hv, hl] at hk
     obtain ⟨i, d, hi, hd, hb, dG⟩ := lT hv
     obtain ⟨a, vs, rfl, ha, hr, hc⟩ := oW h hp hl
     cases b
     · cases l with
       | nil => simp [fW] at hk
       | cons x xs =>
         simp only [fW] at hk
         simp only [aD] at hr
         obtain ⟨u, us, rfl, h1, h2⟩ := hr
         have := (hc 0 u rfl).1
         have h0 : a.add 0 = a := by simp [Addr.add]
         rw [h0] at this
         refine ⟨u, x, ?_, h1, hk⟩
         simp only [asAddr, loadVar, bK, bY, bW, jm hd, hb, bq, if_false, run_load, this, dT]
     · obtain ⟨hle, hk⟩ := hk
       have hlen := hr.length
       have fy : (loadCells a (vs.take sz).length).run C.P w = .ok (vs.take sz).toArray w :=
        run_loadCells_list (P := C.P) w a (vs.take sz) fun j u hu => by
         rw [List.getElem?_take] at hu
         split at hu
         · exact (hc j u hu).1
         · cases hu
       have qu : (vs.take sz).length = sz := by simp; omega
       rw [qu] at fy
       have Iw : ∀ u ∈ vs.take sz, u.oneCell' = true := fun u hu => by
        obtain ⟨j, hj⟩ := List.getElem?_of_mem hu
        rw [List.getElem?_take] at hj
        split at hj
        · exact (hc j u hj).2
        · cases hj
       refine ⟨.agg (vs.take sz).toArray, _, ?_, ?_, hk⟩
       · simp only [asAddr, loadVar, bK, bY, bW, jm hd, hb, if_true, dF hi, dG, fy, dT]
       · simp only [ay]; exact ⟨_, rfl, Iw, hr.take sz⟩
theorem xY (h : aY g U w) {a : Act} (hr : fg g ρ a.tmps) : ∀ (rs : List ResultVar) (k : List AV -> Prop), sb C.P ρ U rs k ->
 ∃ us xs, (rs.mapM (fun
  | .tmp t => pure (a.tmps.getD t undef)
  | .cell p t => do loadVar t (<- asAddr (a.tmps.getD p undef)) : ResultVar -> Sem Value)).run C.P w = .ok us w /\ aD g xs us /\ k xs
 | [], k, hk => ⟨[], [], by simp, by simp [aD], hk⟩
 | .tmp t :: rs, k, hk => by
   obtain ⟨us, xs, h1, h2, h3⟩ := xY h hr rs _ hk
   exact ⟨a.tmps.getD t undef :: us, ρ.get t :: xs, by simp only [List.mapM_cons, bK, bY, bW, h1], by simp only [aD]; exact ⟨_, _, rfl, hr t, h2⟩, h3⟩
 | .cell p t :: rs, k, hk => by
   obtain ⟨u, x, h4, h5, h6⟩ := Jw h (hr p) hk
   obtain ⟨us, xs, h1, h2, h3⟩ := xY h hr rs _ h6
   simp only [bK] at h4
   exact ⟨u :: us, x :: xs, by simp only [List.mapM_cons, bK, bY, h4, bW, h1], by simp only [aD]; exact ⟨_, _, rfl, h5, h2⟩, h3⟩
theorem xr (h : aY g U w) {a : Act} (hr : fg g ρ a.tmps) {fn : Func} {k : List AV -> Prop} (hk : sb C.P ρ U fn.results.toList k) :
 ∃ u xs, (results fn a.tmps).run C.P w = .ok u w /\ ay g (sf xs) u /\ k xs := by
 obtain ⟨us, xs, h1, h2, h3⟩ := xY h hr _ k hk
 have e : (results fn a.tmps).run C.P w = .ok (if h : us.toArray.size = 1 then us.toArray[0] else .tuple us.toArray) w := by
  unfold results
  rw [Array.mapM_eq_mapM_toList]
  simp only [bK, Sem.run_map, bY]
  erw [h1]
  rfl
 refine ⟨_, xs, e, ?_, h3⟩
 match xs, us, h2 with
 | [], us, h2 =>
   simp only [aD] at h2; subst h2
   simp [sf, ay, aD]
 | [x], us, h2 =>
   simp only [aD] at h2
   obtain ⟨u, _, rfl, h4, rfl⟩ := h2
   simpa [sf] using h4
 | x :: y :: zs, us, h2 =>
   have hl := h2.length
   rw [dif_neg (by simp at hl ⊢; omega)]
   simp only [sf, ay]
   exact ⟨us, rfl, h2⟩
theorem xC (args : List AV) (vs : List Value) (n : Nat) (ha : aD g args vs) : fg g (Env.gM args) (vs.toArray ++ Array.replicate n undef) := fun t => by
 simp only [Env.gM, Array.getD_eq_getD_getElem?, sa, Array.getElem?_append, List.size_toArray, List.getElem?_toArray]
 have hl := ha.length
 by_cases ht : t < vs.length
 · rw [if_pos ht]
   obtain ⟨x, hx⟩ : ∃ x, args[t]? = some x := ⟨args[t]'(by omega), by simp⟩
   obtain ⟨v, hv, hr⟩ := ha.get hx
   rw [hx, hv]; exact hr
 · rw [if_neg ht, oK (by omega)]
   simp only [Option.getD_none]
   have : ((Array.replicate n undef)[t - vs.length]?).getD undef = undef := by
    rw [Array.getElem?_replicate]; split <;> rfl
   rw [this]; exact rE
theorem nY {fn : Func} {a : Act} {R : cB -> St -> Prop} (g0 : Gh) : ∀ (ms : List Nat) (g : Gh) (w : World) (u : FrameMode), ms.Nodup -> (∀ r ∈ ms, g.res r = true /\ g0.res r = false) -> Gh.Le g0 g -> aY g U w -> fg g ρ a.tmps ->
 ((u = .returning /\ sb C.P ρ U fn.results.toList fun vs => ∃ x ae, lA (sf vs) U x ae /\ R (.ret x) ae) \/ (∃ x v, u = .panicking [{ v, recovered := false }] /\ ay g x v /\ R (.panic x) U)) ->
 LeavesInM Fence.wide 0 C.P fn a.tmps (l9 g0 R) (ms.map BX) u w
 | [], g, w, u, _, _, hle, hs, hr, h => by
   simp only [gP, LeavesInM]
   rcases h with ⟨rfl, h⟩ | ⟨x, v, rfl, hx, h⟩
   · obtain ⟨v, xs, fy, hv, x, ae, ht, hR⟩ := xr hs hr h
     obtain ⟨g', GY, dA, hx⟩ := ht g w v hs hv
     exact ⟨v, fy, g', ae, x, hle.trans GY, dA, hx, hR⟩
   · exact ⟨g, U, x, v, rfl, hle, hs, hx, h⟩
 | r :: ms, g, w, u, hnd, vj, hle, hs, hr, h => by
   simp only [dy, LeavesInM]
   refine ⟨by rcases h with ⟨rfl, _⟩ | ⟨_, _, rfl, _⟩ <;> simp, .inl ⟨r, { w with heap := w.heap.setIfInBounds r (Obj.deferred none) }, rfl, ?_, ?_⟩⟩
   · obtain ⟨_, hh⟩ := hs.res r (vj r (by simp)).1
     simp [Instr.takeDeferred, getObj, setObj, bK, Sem.run, hh, Result.andThen]
   · have Y3 : Gh.qg g { g with res := fun x => if x = r then false else g.res x } := ⟨fun _ _ h => h, fun _ _ _ h => h, fun _ _ h => h⟩
     refine nY g0 ms { g with res := fun x => if x = r then false else g.res x } _ u (List.nodup_cons.1 hnd).2 (fun q hq => ?_) ?_ (hs.shut (vj r (by simp)).1) (fun t => (hr t).dI Y3) ?_
     · refine ⟨?_, (vj q (by simp [hq])).2⟩
       show (if q = r then false else g.res q) = true
       rw [if_neg (fun e : q = r => by subst e; exact (List.nodup_cons.1 hnd).1 hq)]
       exact (vj q (by simp [hq])).1
     · refine ⟨hle.base, hle.w0, hle.place, hle.bM, hle.bH, fun q hq => ?_, hle.vr, hle.sL⟩
       show (if q = r then false else g.res q) = true
       have bQ : q ≠ r := fun e => by subst e; rw [(vj q (by simp)).2] at hq; cases hq
       rw [if_neg bQ]
       exact hle.res q hq
     · rcases h with h | ⟨x, v, h1, h2, h3⟩
       · exact .inl h
       · exact .inr ⟨x, v, h1, h2.dI Y3, h3⟩
theorem af.F4 {f : FuncId} {fn : Func} {c : Code} {args : List AV} {R : cB -> St -> Prop} (hf : C.P.funcs[f]? = some fn) (hb : fn.body = some c) (hlen : args.length <= fn.ntmps)
 (h : bz C fn.ntmps .fn c (aaN C.P fn R) (Env.gM args) U) : af C f args U R := by
 intro g w vs hs hG ha
 have hl := ha.length
 refine callsIn_of_wp_marks hf hb trivial ?_
 have zU := xC args vs (fn.ntmps - args.length) ha
 have := h g w { tmps := vs.toArray ++ Array.replicate (fn.ntmps - vs.toArray.size) undef, defers := [] } none hs hG (by
  have e : vs.toArray.size = args.length := by simpa using hl
  rw [e]; exact zU) (by simp; omega) trivial
 refine wpIn_mono this ?_
 rintro e a w' ⟨k1, g', ae, dv, ms, k2, k3, k4, k5, k6, k7⟩
 simp only [jU] at k2
 cases e with
 | normal =>
   show LeavesInM _ _ _ _ _ _ a.defers _ _
   rw [k2]
   exact nY g ms g' w' _ k3.nodup k3.res k4 k5 k6 (.inl ⟨rfl, k7⟩)
 | ret =>
   show LeavesInM _ _ _ _ _ _ a.defers _ _
   rw [k2]
   exact nY g ms g' w' _ k3.nodup k3.res k4 k5 k6 (.inl ⟨rfl, k7⟩)
 | panic ch =>
   obtain ⟨x, v, rfl, hx, hR⟩ := k7
   show LeavesInM _ _ _ _ _ _ a.defers _ _
   rw [k2]
   exact nY g ms g' w' _ k3.nodup k3.res k4 k5 k6 (.inr ⟨x, v, rfl, hx, hR⟩)
 | exit id => exact k7.elim
 | goto l => exact k7.elim
 | outgrown => exact k7.elim
def Pure (C : cu) (f : FuncId) (args : List AV) (x : AV) : Prop := ∀ U R, R (.ret x) U -> af C f args U R
end
end Go.Rip
namespace Go.Rip
open Go.RowKit
section
variable {C : cu} {g : Gh} {U : St} {w : World} {nt : Nat} {ro : Ro} {Q : Ex -> Env -> St -> Prop} {ρ : Env}
def VJ (o : Nat) (Q : Ex -> Env -> St -> Prop) (ρ : Env) : cB -> St -> Prop
 | .ret _, ae => ∃ L, ae.loop o = some L /\ L.state ≠ .busy /\ (match L.eJ with
   | none => Q .normal ρ (ae.del o)
   | some .ret => Q .ret ρ (ae.del o)
   | some (.exit id) => Q (.exit id) ρ (ae.del o)
   | _ => False)
 | .panic x, ae => Q (.panic x) ρ ae
theorem aY.No (h : aY g U w) {o : Nat} {L : eY} {p : Place} (ho : U.loop o = some L) (hp : g.place o = some p) (x : Loop) :
 aY g (U.del o) { w with heap := w.heap.setIfInBounds p.aH (.loop x) } := by
 obtain ⟨p', k1, k2, fn, tmps, defers, k3, _⟩ := h.live o _ (St.ko.1 ho)
 rw [hp] at k1; cases k1
 refine (h.weaken (St.ql U o)).change p.aH k2 (Gh.Le.refl g) rfl rfl ⟨rfl, rfl, rfl, by simp⟩ (fun k hk _ => Array.getElem?_setIfInBounds_ne (Ne.symm hk)) (fun _ _ _ => rfl) (fun _ _ => rfl) (fun q u hu => ?_) (fun es c hr => ?_) (fun b' x' p' h1 h2 e => ?_) (h.qP (St.ko.1 ho) hp)
 · have := (h.bM _ _ _ hu).1; simp [World.cell?, k3] at this
 · have := (h.bH _ _ _ hr).1; rw [k3] at this; cases this
 · simp only [St.del] at h1
   split at h1
   · cases h1
   · rename_i ne; exact ne (h.apart _ _ _ _ _ _ h1 (St.ko.1 ho) h2 hp e)
theorem aY.oN (h : aY g U w) {o : Nat} {L L' : eY} {p : Place} (ho : U.loop o = some L) (hp : g.place o = some p) {fn : FuncId} {tmps : Array Value} {defers : Nat}
 (hn : tmps.size = L'.nt) (hr : ∀ t, ay g (L'.ρ t) (tmps.getD t undef)) :
 aY g (U.set o (.loop L')) { w with heap := w.heap.setIfInBounds p.aH (.loop { state := L'.state, pending := L'.eJ, fn, tmps, params := L'.params, assign := L'.assign, body := L'.body, defers }) } := by
 obtain ⟨p', k1, k2, PB, B4, wj, k3, _⟩ := h.live o _ (St.ko.1 ho)
 rw [hp] at k1; cases k1
 have aJ := (iE.1 k3).1
 refine h.rewrite (St.ko.1 ho) hp ⟨rfl, rfl, rfl, by simp⟩ (fun k hk _ => Array.getElem?_setIfInBounds_ne (Ne.symm hk)) (fun q => ?_) ?_ ⟨fn, tmps, defers, by simp [aJ], hn, hr⟩
 · cases e : g.bM p.aH q with
   | none => rfl
   | some u => have := (h.bM _ _ _ e).1; simp [World.cell?, k3] at this
 · cases e : g.bH p.aH with
   | none => rfl
   | some u => have := (h.bH _ _ _ e).1; rw [k3] at this; cases this
theorem bz.rangeFunc (tag : Nat) {f : Operand} {ps : Array Tmp} {assign body : Code} {hY : FuncId} {first cap : List AV} (hf : ρ.ev C f = .func (.func hY) first cap) (qq : dB C.P hY = true)
 (h : ∀ o, U.cQ o -> af C hY (first ++ [.pj o] ++ cap) (U.new o (.loop ⟨ρ.get, nt, ps, assign, body, .ready, none, tag⟩)) (VJ o Q ρ)) : bz C nt .fn (.rangeFunc f ps assign body) Q ρ U := by
 intro g w a fr hs hG hr hn qs
 cases fr with
 | some l => exact qs.elim
 | none =>
 have UB := qn hG hr f
 rw [hf] at UB
 simp only [ay] at UB
 obtain ⟨fs, cs, hval, II, qp⟩ := UB
 refine wpIn_rangeFunc fun fn _ => ?_
 obtain ⟨CU, sI⟩ := hs.RM
 have hrE := hr.mono CU
 obtain ⟨o, g2, f1, f2, f3, f4⟩ := sI.qF (.loop { state := .ready, pending := none, fn := fn, tmps := a.tmps, params := ps, assign, body, defers := w.heap.size }) 0 0 (.loop ⟨ρ.get, nt, ps, assign, body, .ready, none, tag⟩)
  fun g' hle _ _ => ⟨fn, a.tmps, w.heap.size, heap_alloc_new _ _, hn, fun t => (hrE t).mono hle⟩
 have qv := CU.trans f2
 obtain ⟨CE, hfn, UW, hng⟩ : ∃ CE, C.P.funcs[hY]? = some CE /\ CE.body.isNone = false /\ (CE.name == "runtime.NumGoroutine") = false := by
  unfold dB at qq
  split at qq
  · rename_i CE hfn
    simp only [bN, Bool.not_eq_true'] at qq
    exact ⟨CE, hfn, by cases hb : CE.body <;> simp_all, qq.2⟩
  · cases qq
 refine ⟨w.heap.size + 1, [{ target := .collected w.heap.size, args := #[] }], ((w.alloc (.deferred (some []))).alloc (.loop { state := .ready, pending := none, fn := fn, tmps := a.tmps, params := ps, assign, body, defers := w.heap.size })),
  { target := .fn (.func hY) cs.toArray, args := fs.toArray ++ #[.func (.yield (w.heap.size + 1)) #[] #[]] }, ((w.alloc (.deferred (some []))).alloc (.loop { state := .ready, pending := none, fn := fn, tmps := a.tmps, params := ps, assign, body, defers := w.heap.size })), hY, (fs.toArray ++ #[.func (.yield (w.heap.size + 1)) #[] #[]]) ++ cs.toArray, ((w.alloc (.deferred (some []))).alloc (.loop { state := .ready, pending := none, fn := fn, tmps := a.tmps, params := ps, assign, body, defers := w.heap.size })), ?_, ?_, fun _ _ => trivial, ?_, fun hd => by simp [FW, Fence.wide] at hd, ?_⟩
 · simp only [Instr.enterLoop, FW, bK, run_newObj, bY, bW]
   rw [Array.size_push]
   rfl
 · simp only [resolve, rangeCall, List.map_toArray, dy, gP]
   rw [hval]
   simp only [Deferred.ofValue, bY]
   rfl
 · simp only [invoke, callFunc, bK, bY, bW, run_program, hfn, hng, UW, bq, if_false, dT]
 · have hc := h o f1 g2 _ (fs ++ [Value.func (.yield (w.heap.size + 1)) #[] #[]] ++ cs) f4 (hG.mono qv) (((II.mono qv).append (by
    simp only [aD]
    exact ⟨_, _, rfl, by simp only [ay]; exact ⟨_, f3, by simp⟩, rfl⟩)).append (qp.mono qv))
   have e : (fs ++ [Value.func (.yield (w.heap.size + 1)) #[] #[]] ++ cs).toArray = fs.toArray ++ #[Value.func (.yield (w.heap.size + 1)) #[] #[]] ++ cs.toArray := by simp
   rw [e] at hc
   have FA : CallsIn (FW none) 0 C.P hY _ _ _ := hc
   refine FA.mono ?_
   rintro e w3 hp
   have IT : ∀ g3, Gh.Le g2 g3 -> lW false g g3 [w.heap.size] := fun g3 hl => ⟨fun h => (by cases h), by simp, fun r hr => by
    simp only [lg] at hr; subst hr
    exact ⟨hl.res _ (f2.res _ (by simp)), hs.Ag (df _)⟩⟩
   cases e with
   | returned v =>
     obtain ⟨g3, cE, x, h1, h2, h3, L, h4, h5, h6⟩ := hp
     obtain ⟨p, q1, q2, PB, B4, wj, q3, q4, q5⟩ := h2.live o _ (St.ko.1 h4)
     have pC : g3.place o = some ⟨w.heap.size + 1, 0, 0⟩ := h1.place _ _ (by rw [f3]; simp)
     rw [pC] at q1; cases q1
     have vi : (getObj (w.heap.size + 1)).run C.P w3 = .ok (.loop { state := L.state, pending := L.eJ, fn := PB, tmps := B4, params := L.params, assign := L.assign, body := L.body, defers := wj }) w3 := by simp [getObj, Sem.run, q3]
     have IW : ∀ x, (setObj (w.heap.size + 1) x).run C.P w3 = .ok () { w3 with heap := w3.heap.setIfInBounds (w.heap.size + 1) x } := fun x => by simp [setObj, Sem.run, q3]
     have XJ : (L.state == LoopState.busy) = false := by
      cases hL : L.state <;> first
       | rfl
       | exact absurd hL h5
     have tA : (Instr.endLoop (w.heap.size + 1)).run C.P w3 = .ok L.eJ { w3 with heap := w3.heap.setIfInBounds (w.heap.size + 1) (.loop { state := .exhausted, pending := L.eJ, fn := PB, tmps := B4, params := L.params, assign := L.assign, body := L.body, defers := wj }) } := by
      simp only [Instr.endLoop, Instr.getLoop, bK, vi, bW, bY, XJ, bq, if_false, dT, IW]
     have U7 := h2.No h4 pC { state := .exhausted, pending := L.eJ, fn := PB, tmps := B4, params := L.params, assign := L.assign, body := L.body, defers := wj }
     have post : ∀ ex, CC g3 Q ρ (cE.del o) ex -> n7 g nt false a.defers Q ex { a with defers := [{ target := .collected w.heap.size, args := #[] }] ++ a.defers } _ := fun ex hq =>
      ⟨hn, g3, cE.del o, ρ, [w.heap.size], rfl, IT g3 h1, qv.trans h1, U7, hr.mono (qv.trans h1), hq⟩
     refine ⟨L.eJ, _, tA, ?_⟩
     generalize L.eJ = eJ at h6 post ⊢
     cases eJ with
     | none => exact post .normal h6
     | some c =>
       cases c <;> first
        | exact h6.elim
        | exact wpIn_exit (post (.exit _) h6)
        | exact wpIn_ret (post .ret h6)
   | panicked ch =>
     obtain ⟨g3, cE, x, v, rfl, h1, h2, h3, h4⟩ := hp
     exact ⟨hn, g3, cE, ρ, [w.heap.size], rfl, IT g3 h1, qv.trans h1, h2, hr.mono (qv.trans h1), x, v, rfl, h3, h4⟩
   | outgrown => exact hp.elim
def tY (ρ : Nat -> AV) : List Tmp -> List AV -> Nat -> AV
 | t :: ts, v :: vs => tY (fun x => if x = t then v else ρ x) ts vs
 | _, _ => ρ
theorem DI {ρ : Nat -> AV} {tmps : Array Value} : ∀ (ps : List Tmp) (args : List AV) (vs : List Value) (ρ : Nat -> AV) (tmps : Array Value), (∀ t, ay g (ρ t) (tmps.getD t undef)) -> (∀ t ∈ ps, t < tmps.size) -> aD g args vs ->
 ((ps.zip vs).foldl (fun (tmps : Array Value) (p : Tmp × Value) => tmps.setIfInBounds p.1 p.2) tmps).size = tmps.size /\ ∀ t, ay g (tY ρ ps args t) (((ps.zip vs).foldl (fun (tmps : Array Value) (p : Tmp × Value) => tmps.setIfInBounds p.1 p.2) tmps).getD t undef)
 | [], args, vs, ρ, tmps, h, _, _ => by simpa [tY] using h
 | t :: ts, [], vs, ρ, tmps, h, _, ha => by
   simp only [aD] at ha; subst ha
   simpa [tY] using h
 | t :: ts, x :: args, vs, ρ, tmps, h, hl, ha => by
   simp only [aD] at ha
   obtain ⟨v, vs, rfl, hx, ha⟩ := ha
   simp only [List.zip_cons_cons, List.foldl_cons, tY]
   have h1 : ∀ t', ay g ((fun y => if y = t then x else ρ y) t') ((tmps.setIfInBounds t v).getD t' undef) := (fg.put (g := g) (ρ := ⟨ρ⟩) h (hl t (by simp)) hx)
   obtain ⟨h2, h3⟩ := DI (ρ := ρ) (tmps := tmps) ts args vs _ (tmps.setIfInBounds t v) h1 (fun t' vo => by simpa using hl t' (by simp [vo])) ha
   exact ⟨by rw [h2]; simp, h3⟩
def VM (o : Nat) (R : cB -> St -> Prop) : Ex -> Env -> St -> Prop
 | .normal, _, U => ∃ L, U.loop o = some L /\ R (.ret (.bool true)) (U.set o (.loop { L with state := .ready, eJ := none }))
 | .ret, _, U => ∃ L, U.loop o = some L /\ R (.ret (.bool false)) (U.set o (.loop { L with state := .done, eJ := some .ret }))
 | .exit id, _, U => ∃ L, U.loop o = some L /\ R (.ret (.bool false)) (U.set o (.loop { L with state := .done, eJ := some (.exit id) }))
 | .panic _, _, _ => False
def Rf (C : cu) (o : Nat) (body : Code) (nt : Nat) (R : cB -> St -> Prop) : Ex -> Env -> St -> Prop
 | .normal, ρ, U => ∃ L, U.loop o = some L /\ L.state = .ready /\ bz C nt (.round o) body (VM o R) ρ (U.set o (.loop { L with state := .busy }))
 | _, _, _ => False
theorem jK.DC {o : Nat} {args : List AV} {R : cB -> St -> Prop} {L : eY} (hL : U.loop o = some L) (hargs : args.length = L.params.size) (PZ : ∀ t ∈ L.params.toList, t < L.nt)
 (h : bz C L.nt (.round o) L.assign (Rf C o L.body L.nt R) ⟨tY L.ρ L.params.toList args⟩ U) : jK C o args U R := by
 intro g w vs x hs hG ha hx
 obtain ⟨p, k1, k2, fn, tmps, defers, k3, k4, k5⟩ := hs.live o _ (St.ko.1 hL)
 rw [hx] at k1; cases k1
 have vi : (getObj x.aH).run C.P w = .ok (.loop { state := L.state, pending := L.eJ, fn, tmps, params := L.params, assign := L.assign, body := L.body, defers }) w := by simp [getObj, Sem.run, k3]
 have dG : vs.length = L.params.size := by rw [ha.length, hargs]
 obtain ⟨z1, z2⟩ := DI (g := g) (ρ := L.ρ) (tmps := tmps) L.params.toList args vs L.ρ tmps k5 (fun t ht => by rw [k4]; exact PZ t ht) ha
 have XB : (L.params.zip vs.toArray).foldl (fun (tmps : Array Value) (p : Tmp × Value) => tmps.setIfInBounds p.1 p.2) tmps = (L.params.toList.zip vs).foldl (fun (tmps : Array Value) (p : Tmp × Value) => tmps.setIfInBounds p.1 p.2) tmps := by
  rw [<- Array.foldl_toList]; congr 1; simp
 refine ⟨fn, (L.params.toList.zip vs).foldl (fun (tmps : Array Value) (p : Tmp × Value) => tmps.setIfInBounds p.1 p.2) tmps, L.assign, L.body, ?_, ?_⟩
 · simp only [Instr.yield, Instr.getLoop, bK, vi, bW, bY, List.size_toArray, dG, ne_eq, not_true_eq_false, if_false, dT]
   rw [<- XB]
 · refine roundIn_of_wpIn trivial ?_
   have h1 := h g w { tmps := (L.params.toList.zip vs).foldl (fun (tmps : Array Value) (p : Tmp × Value) => tmps.setIfInBounds p.1 p.2) tmps, defers := [] } (some x.aH) hs hG z2 (by rw [<- k4]; exact z1) ⟨x, hx, rfl⟩
   have CL : L.assign.wpIn (Fence.wide.inRound x.aH) 0 C.P _ _ _ := h1
   refine wpIn_mono CL ?_
   rintro e a1 w1 ⟨q1, g1, bJ, ρ1, ms, q2, q3, q4, q5, q6, q7⟩
   cases e with
   | normal =>
     obtain ⟨L1, r1, r2, r3⟩ := q7
     obtain ⟨p, k1, k2, fn, tmps, defers, k3, k4, k5⟩ := q5.live o _ (St.ko.1 r1)
     rw [q4.place _ _ hx] at k1; cases k1
     have vi : (getObj x.aH).run C.P w1 = .ok (.loop { state := L1.state, pending := L1.eJ, fn, tmps, params := L1.params, assign := L1.assign, body := L1.body, defers }) w1 := by simp [getObj, Sem.run, k3]
     have IW : ∀ y, (setObj x.aH y).run C.P w1 = .ok () { w1 with heap := w1.heap.setIfInBounds x.aH y } := fun y => by simp [setObj, Sem.run, k3]
     have A0 := q5.oN (L' := { L1 with state := .busy }) (fn := fn) (defers := defers) r1 (q4.place _ _ hx) k4 k5
     refine ⟨_, by simp only [Instr.beginRound, Instr.getLoop, bK, vi, bW, bY, IW, r2]; rfl, ?_⟩
     have h2 := r3 g1 _ a1 (some x.aH) A0 (hG.mono q4) q6 q1 ⟨x, q4.place _ _ hx, rfl⟩
     have YE : L.body.wpIn (Fence.wide.inRound x.aH) 0 C.P _ _ _ := h2
     refine wpIn_mono YE ?_
     rintro e a2 w2 ⟨Qf, g2, bX, pk, Dw, VE, q3', ZG, ZH, q6', Ga⟩
     have P4 := (q4.trans ZG).place _ _ hx
     have fin : ∀ (L2 : eY) (jump : Option Code) (st : LoopState), bX.loop o = some L2 -> (if jump.isNone then LoopState.ready else .done) = st -> R (.ret (.bool jump.isNone)) (bX.set o (.loop { L2 with state := st, eJ := jump })) ->
      ∃ v w', (Instr.endRound x.aH jump).run C.P w2 = .ok v w' /\ l9 g R (.returned v) w' := fun L2 jump st hl eW hR => by
      obtain ⟨p, k1, k2, fn, tmps, defers, k3, k4, k5⟩ := ZH.live o _ (St.ko.1 hl)
      rw [P4] at k1; cases k1
      have vi : (getObj x.aH).run C.P w2 = .ok (.loop { state := L2.state, pending := L2.eJ, fn, tmps, params := L2.params, assign := L2.assign, body := L2.body, defers }) w2 := by simp [getObj, Sem.run, k3]
      have IW : ∀ y, (setObj x.aH y).run C.P w2 = .ok () { w2 with heap := w2.heap.setIfInBounds x.aH y } := fun y => by simp [setObj, Sem.run, k3]
      have U7 := ZH.oN (L' := { L2 with state := st, eJ := jump }) (fn := fn) (defers := defers) hl P4 k4 k5
      refine ⟨.bool jump.isNone, _, by simp only [Instr.endRound, Instr.getLoop, bK, vi, bW, bY, IW, eW], g2, _, .bool jump.isNone, q4.trans ZG, U7, by simp only [ay], hR⟩
     cases e with
     | normal => obtain ⟨L2, hl, hR⟩ := Ga; exact fin L2 none .ready hl rfl hR
     | ret => obtain ⟨L2, hl, hR⟩ := Ga; exact fin L2 (some .ret) .done hl rfl hR
     | exit id => obtain ⟨L2, hl, hR⟩ := Ga; exact fin L2 (some (.exit id)) .done hl rfl hR
     | panic ch => obtain ⟨x, v, _, _, hf⟩ := Ga; exact hf.elim
     | goto l => exact Ga.elim
     | outgrown => exact Ga.elim
   | panic ch => obtain ⟨x, v, _, _, hf⟩ := q7; exact hf.elim
   | ret => exact q7.elim
   | exit id => exact q7.elim
   | goto l => exact q7.elim
   | outgrown => exact q7.elim
end
end Go.Rip
namespace Go.Rip
open Go.RowKit
section
variable {C : cu} {g : Gh} {U ae : St} {w : World} {nt : Nat} {nm : Bool} {ro : Ro} {fr : Option Nat} {Q : Ex -> Env -> St -> Prop} {ρ dv : Env} {mu : Bool}
theorem qE {l : List Operand} (h : ∀ x ∈ l, ρ.ev C x = dv.ev C x) : l.map (ρ.ev C) = l.map (dv.ev C) := List.map_congr_left h
theorem uz {parts : Array (Nat × Operand)} (h : ∀ x ∈ (parts.toList.map (·.2)).toArray, ρ.ev C x = dv.ev C x) : jM C ρ parts = jM C dv parts := by
 unfold jM
 apply List.map_congr_left
 intro p hp
 rw [h p.2 (by simp; exact ⟨p.1, by simpa using hp⟩)]
theorem JN (o : Op) (h : ∀ x ∈ o.operands, ρ.ev C x = dv.ev C x) : gN C mu o ρ U = gN C mu o dv U := by
 cases o with
 | call c =>
   obtain ⟨callee, ⟨args⟩, ⟨QV⟩⟩ := c
   simp only [gN, wi]
   have ha : args.map (ρ.ev C) = args.map (dv.ev C) := qE fun x hx => h x (by simp only [Op.operands, Call.operands]; rw [Array.mem_append]; exact .inr (by simpa using hx))
   cases callee with
   | value f =>
     show fY C.P (ρ.ev C f) (args.map (ρ.ev C)) = fY C.P (dv.ev C f) (args.map (dv.ev C))
     rw [ha, h f (by simp [Op.operands, Call.operands])]
   | invoke r m => rfl
   | builtin b =>
     have hm : ∀ x ∈ args, ρ.ev C x = dv.ev C x := fun x hx => h x (by simp only [Op.operands, Call.operands]; rw [Array.mem_append]; exact .inr (by simpa using hx))
     split <;> simp_all
 | build t parts => simp only [gN]; rw [uz h]
 | buildSlice t n parts => simp only [gN]; rw [uz h]
 | makeFunc fn first cap =>
   simp only [gN]
   rw [qE (l := first.toList) fun x hx => h x (by simp [Op.operands]; exact .inl (by simpa using hx)), qE (l := cap.toList) fun x hx => h x (by simp [Op.operands]; exact .inr (by simpa using hx))]
 | slice t x lo hi m =>
   cases m with
   | some _ => rfl
   | none =>
     simp only [gN]
     have h1 := h x (by simp [Op.operands])
     have h2 : lo.map (ρ.ev C) = lo.map (dv.ev C) := by
      cases lo with
      | none => rfl
      | some y => simp only [Option.map_some]; rw [h y (by simp [Op.operands])]
     have h3 : hi.map (ρ.ev C) = hi.map (dv.ev C) := by
      cases hi with
      | none => rfl
      | some y => simp only [Option.map_some]; rw [h y (by simp [Op.operands])]
     rw [h1, h2, h3]
 | makeMap t r => cases r <;> rfl
 | next i b => cases b <;> simp_all [gN, Op.operands]
 | _ => simp_all [gN, Op.operands]
def dM : AV -> List Nat
 | .box b _ => [b]
 | .ms b _ _ _ _ => [b]
 | .mp m => [m]
 | .it o => [o]
 | .vec _ (.own τ) _ => [τ]
 | _ => []
theorem Rk {b : Nat} (h : ae.live b = U.live b) : ae.box b = U.box b := by simp only [St.box, h]
theorem Eu {p : AV} (h : ∀ b ∈ dM p, ae.live b = U.live b) : jL ae p = jL U p := by
 cases p <;> simp only [jL]
 rw [Rk (h _ (by simp [dM]))]
def quiet : Op -> Bool
 | .move _ | .assign _ | .pick .. | .load .. | .build .. | .buildSlice .. | .fieldAddr .. | .field .. | .indexAddr .. | .index .. | .binOp .. | .unOp .. | .convert .. | .nilCheck _ | .lookup .. | .extract .. | .makeInterface .. | .makeFunc ..
 | .slice .. => true
 | .call c => match c.callee with
   | .value _ => true
   | .builtin .len | .builtin .min | .builtin .max => true
   | _ => false
 | _ => false
def ma : Op -> Bool
 | .load .. | .lookup .. => true
 | _ => false
theorem RZ (o : Op) (hq : quiet o = true) (h : ma o = true -> ∀ x ∈ o.operands, ∀ b ∈ dM (ρ.ev C x), ae.live b = U.live b) : gN C mu o ρ ae = gN C mu o ρ U := by
 cases o with
 | call c =>
   obtain ⟨callee, ⟨args⟩, ⟨QV⟩⟩ := c
   simp only [gN, wi]
   cases callee with
   | value f => rfl
   | invoke r m => rfl
   | builtin b =>
     cases b <;> simp only [quiet, bq] at hq
     all_goals (split <;> first
      | rfl
      | (simp only [Dp]; done)
      | contradiction
      | simp_all)
 | load t a =>
   simp only [gN, rn]
   rw [Eu (h rfl a (by simp [Op.operands]))]
 | lookup t m k ok =>
   have := h rfl m (by simp [Op.operands])
   simp only [gN, sQ]
   generalize ρ.ev C m = y at this ⊢
   cases y <;> simp_all [dM, St.mp, kg]
 | slice t x lo hi m => cases m <;> rfl
 | _ => first | rfl | simp [quiet] at hq
theorem av.wp_mono {K K' : AV -> St -> Prop} {Kp : AV -> St -> Prop} (hk : ∀ v U, K v U -> K' v U) : ∀ (r : av) {U : St}, r.wp C U K Kp -> r.wp C U K' Kp
 | .val _, _, h => hk _ _ h
 | .jD _ _ _, _, h => hk _ _ h
 | .new _ _ _, _, h => fun b hb => hk _ _ (h b hb)
 | .ji _ _, _, h => fun p hp => hk _ _ (h p hp)
 | .enter _ _, _, h => af.mono h fun r U hr => by cases r <;> first | exact hk _ _ hr | exact hr
 | .yield _ _, _, h => jK.mono h fun r U hr => by cases r <;> first | exact hk _ _ hr | exact hr
 | .panic _, _, h => h
 | @av.cond _ _ r, _, h => ⟨h.1, av.wp_mono hk r h.2⟩
 | .bad, _, h => h
theorem Fs {x : Operand} {dst : Option Tmp} {v : AV} (h : ∀ d, dst = some d -> x ≠ .tmp d) : (ρ.dO dst v).ev C x = ρ.ev C x := by
 cases dst with
 | none => rfl
 | some d =>
   cases x <;> simp only [Env.dO, Env.put, Env.ev]
   rename_i t
   rw [if_neg (fun e => h d rfl (by rw [e]))]
theorem F7 (ops : Array Oper) (o : Oper) {dst : Option Tmp} {v : AV} (h : ∀ d, dst = some d -> d ∉ o.looksAt ops) : gN C mu o.op (ρ.dO dst v) U = gN C mu o.op ρ U :=
 JN o.op fun x hx => Fs fun d hd Ve => h d hd (by
  subst Ve
  exact List.mem_append_left _ (List.mem_filterMap.2 ⟨.tmp d, by simpa using hx, rfl⟩))
theorem AP (ops : Array Oper) (o : Oper) {dst : Option Tmp} {v : AV} (h : ∀ d, dst = some d -> d ∉ o.looksAt ops) : fV ops (ρ.dO dst v) o.guard = fV ops ρ o.guard := by
 cases dst with
 | none => rfl
 | some d =>
   have hd := h d rfl
   unfold fV
   cases hg : o.guard with
   | none => rfl
   | some jw =>
     obtain ⟨j, want⟩ := jw
     simp only
     cases hb : (ops[j]?).bind (·.dst) with
     | none => rfl
     | some t =>
       have bQ : t ≠ d := fun e => by
        subst e
        apply hd
        unfold Oper.looksAt
        rw [hg]
        simp only [hb, Option.toList_some, fC, lg, or_true]
       simp only [Env.dO, Env.put, if_neg bQ]
theorem JS {d d' : Option Tmp} {v v' : AV} (h : ∀ t, d = some t -> d' ≠ some t) : (ρ.dO d v).dO d' v' = (ρ.dO d' v').dO d v := by
 cases d <;> cases d' <;> simp only [Env.dO]
 rename_i a b
 have bQ : b ≠ a := fun e => h a rfl (by rw [e])
 simp only [Env.put, Env.mk.injEq]
 funext t
 by_cases h1 : t = b
 · subst h1; rw [if_pos rfl, if_neg bQ, if_pos rfl]
 · rw [if_neg h1]
   by_cases h2 : t = a
   · rw [if_pos h2, if_pos h2]
   · rw [if_neg h2, if_neg h2, if_neg h1]
def nh (mu : List Nat) (o : Oper) : Bool := match o.dst with | some d => mu.contains d | none => false
def mf (C : cu) (mu : List Nat) (ops : Array Oper) (I : St -> Prop) (i : Nat) (K : Env -> St -> Prop) (Kp : AV -> St -> Prop) (ρ : Env) (U : St) : Prop :=
 match ops[i]? with
 | none => K ρ U
 | some o => ao (fV ops ρ o.guard) ((gN C (nh mu o) o.op ρ U).wp C U (fun v ae => I ae /\ K (ρ.dO o.dst v) ae) Kp) (K (ρ.dO o.dst (.aQ [])) U)
def Qd (o : Oper) (k : Nat) : Bool := o.after.toList.any fun e => Region.binds .any e && Nat.beq e.on k
def jh (ops : Array Oper) (i : Nat) : Bool := match ops[i]? with
 | some o => (List.range ops.size).all fun k => Nat.beq k i || (Qd o k || o.after.toList.any fun e => Region.binds .any e && (match ops[e.on]? with | some m => Qd m k | none => false))
 | none => false
def Dn (ops : Array Oper) (listed : Array Bool) : Prop := ∀ m o, ops[m]? = some o -> listed.getD m false = true -> ∀ e ∈ o.after, Region.binds .any e = true -> listed.getD e.on false = true
theorem DD {o : Oper} {k : Nat} (h : Qd o k = true) : ∃ e ∈ o.after, Region.binds .any e = true /\ e.on = k := by
 unfold Qd at h
 rw [List.any_eq_true] at h
 obtain ⟨e, he, hb⟩ := h
 simp only [bN] at hb
 exact ⟨e, by simpa using he, hb.1, dZ hb.2⟩
theorem uP {ops : Array Oper} {i : Nat} {listed : Array Bool} (hD : Dn ops listed) (hr : i ∈ Region.ready .any ops listed) (h : jh ops i = true) (k : Nat) (hk : k < ops.size) (bQ : k ≠ i) : listed.getD k false = true := by
 obtain ⟨_, o, ho, bw⟩ := mem_ready.1 hr
 unfold jh at h
 rw [ho] at h
 simp only [dJ, List.mem_range, ja] at h
 rcases h k hk with h | h | h
 · exact absurd (dZ h) bQ
 · obtain ⟨e, he, hb, yL⟩ := DD h
   rw [<- yL]; exact bw e he hb
 · rw [List.any_eq_true] at h
   obtain ⟨e, he, hb⟩ := h
   rw [bN] at hb
   have h1 := bw e (by simpa using he) hb.1
   have h2 := hb.2
   split at h2
   · rename_i m hm
     obtain ⟨e', jC, dQ, aaj⟩ := DD h2
     rw [<- aaj]; exact hD _ m hm h1 e' jC dQ
   · cases h2
theorem Dn.set {ops : Array Oper} {listed : Array Bool} (hD : Dn ops listed) {i : Nat} (hr : i ∈ Region.ready .any ops listed) : Dn ops (listed.setIfInBounds i true) := by
 intro m o ho hl e he hb
 obtain ⟨_, oi, CZ, bw⟩ := mem_ready.1 hr
 by_cases Y5 : i = m
 · subst Y5
   rw [CZ] at ho; cases ho
   exact getD_set_true (bw e he hb)
 · rw [getD_set_ne false Y5] at hl
   exact getD_set_true (hD m o ho hl e he hb)
theorem Dn.none (ops : Array Oper) (n : Nat) : Dn ops (Array.replicate n false) := by
 intro m o ho hl
 rw [Array.getD_eq_getD_getElem?, Array.getElem?_replicate] at hl
 split at hl <;> simp at hl
def Ix (ops : Array Oper) (I : St -> Prop) (i : Nat) (U : St) : Prop := jh ops i = true \/ I U
def ml (C : cu) (mu : List Nat) (ops : Array Oper) (I : St -> Prop) (K : Env -> St -> Prop) (Kp : AV -> St -> Prop) : Nat -> Array Bool -> Env -> St -> Prop
 | 0, listed, ρ, U => Region.ready .any ops listed = [] /\ K ρ U
 | n + 1, listed, ρ, U => (Region.ready .any ops listed = [] -> K ρ U) /\ ∀ i ∈ Region.ready .any ops listed, mf C mu ops (Ix ops I i) i (ml C mu ops I K Kp n (listed.setIfInBounds i true)) Kp ρ U
theorem Gs {mu : List Nat} {ops : Array Oper} {I : St -> Prop} (cD : kx nt ops = true) (g0 : Gh) : ∀ (fuel t : Nat) (listed : Array Bool) (g : Gh) (U : St) (w : World) (ρ : Env) (a : Act) (ds : List Deferred), Gh.Le g0 g -> aY g U w -> fP C g -> fg g ρ a.tmps -> a.tmps.size = nt -> a.defers = ds ->
 ml C mu ops I (KQ Q) (uM Q) fuel listed ρ U -> wpOpsIn (FW fr) 0 C.P ops (n7 g0 nt nm ds Q) (Region.linearise.go .any ops fuel t listed []) a w := by
 intro fuel
 induction fuel with
 | zero =>
   intro t listed g U w ρ a ds h0 hs hG hr hn hd h
   simp only [Region.linearise.go, List.reverse_nil, wpOpsIn]
   exact ⟨hn, g, U, ρ, [], by simpa using hd, ju _ _ _, h0, hs, hr, h.2⟩
 | succ fuel ih =>
   intro t listed g U w ρ a ds h0 hs hG hr hn hd h
   obtain ⟨h1, h2⟩ := h
   simp only [Region.linearise.go]
   change wpOpsIn (FW fr) 0 C.P ops (n7 g0 nt nm ds Q) (match (Region.ready .any ops listed)[t % (Region.ready .any ops listed).length]? with
    | some i => Region.linearise.go .any ops fuel (t / (Region.ready .any ops listed).length) (listed.setIfInBounds i true) [i]
    | none => [].reverse) a w
   cases hi : (Region.ready .any ops listed)[t % (Region.ready .any ops listed).length]? with
   | none =>
     have zW : Region.ready .any ops listed = [] := by
      cases hr : Region.ready .any ops listed with
      | nil => rfl
      | cons x xs =>
        rw [hr] at hi
        have aJ : t % (x :: xs).length < (x :: xs).length := Nat.mod_lt _ (by simp)
        simp at hi
        simp at aJ
        omega
     simp only [List.reverse_nil, wpOpsIn]
     exact ⟨hn, g, U, ρ, [], by simpa using hd, ju _ _ _, h0, hs, hr, h1 zW⟩
   | some i =>
     dsimp only
     rw [linearise_go_acc, List.reverse_singleton, List.singleton_append]
     simp only [wpOpsIn]
     have eW := h2 i (fi hi)
     unfold mf at eW
     cases ho : ops[i]? with
     | none =>
       rw [ho] at eW
       exact ih _ _ g U w ρ a ds h0 hs hG hr hn hd eW
     | some o =>
       rw [ho] at eW
       dsimp only at eW ⊢
       have kj : o ∈ ops.toList := fi (l := ops.toList) (i := i) (a := o) (by rw [iH]; exact ho)
       have C1 : xS nt o = true := by
        unfold kx at cD
        rw [dJ] at cD
        exact cD o kj
       have NN : ∀ d, o.dst = some d -> d < a.tmps.size := fun d pB => by
        simp only [xS, pB, bN, cP] at C1
        rw [hn]; exact C1.1
       have go : ∀ g' ae w' x v, Gh.Le g g' -> aY g' ae w' -> ay g' x v -> ml C mu ops I (KQ Q) (uM Q) fuel (listed.setIfInBounds i true) (ρ.dO o.dst x) ae -> wpOpsIn (FW fr) 0 C.P ops (n7 g0 nt nm ds Q) (Region.linearise.go .any ops fuel (t / (Region.ready .any ops listed).length) (listed.setIfInBounds i true) []) (a.put o.dst v) w' := fun g' ae w' x v hle dA hx hk =>
        ih _ _ g' ae w' (ρ.dO o.dst x) (a.put o.dst v) ds (h0.trans hle) dA (hG.mono hle) ((hr.mono hle).dO NN hx) (by rw [(lJ a o.dst v).2]; exact hn) (by rw [(lJ a o.dst v).1]; exact hd) hk
       cases IL : fV ops ρ o.guard <;> rw [IL] at eW <;> simp only [ao] at eW
       rename_i b
       have hw := wV hr IL
       cases b
       · rw [if_neg (by rw [hw]; simp)]
         exact ⟨fun _ _ => trivial, go g U w (.aQ []) undef (Gh.Le.refl g) hs rE (eW.2 rfl)⟩
       · rw [if_pos hw]
         refine ni C1 hs hG hr hn (eW.1 rfl) (fun g' ae w' x v hle dA hx hk => go g' ae w' x v hle dA hx hk.2) ?_ (ds := ds)
         intro g' ae w' x v hle dA hx hk
         exact ⟨hn, g', ae, ρ, [], by simpa using hd, ju _ _ _, h0.trans hle, dA, hr.mono hle, x, v, rfl, hx, hk ρ⟩
theorem bz.Bx {id : Nat} {ops : Array Oper} (mu : List Nat) (I : St -> Prop) (hm : C.P.follows .mixedOrders = true) (cD : kx nt ops = true) (h : ml C mu ops I (KQ Q) (uM Q) ops.size (Array.replicate ops.size false) ρ U) : bz C nt ro (.region id ops true) Q ρ U := by
 intro g w a fr h1 h2 h3 h4 qs
 refine wpIn_region_draw fun t => ?_
 simp only [Region.schedule, hm, Bool.true_or, if_true, Region.linearise]
 have hs := h1.grow (iw w)
 exact Gs cD g ops.size t _ g U _ ρ a a.defers (Gh.Le.refl g) hs h2 h3 h4 rfl h
def av.yv (C : cu) : av -> AV -> Prop
 | .val u, v => u = v
 | @av.cond p _ r, v => p /\ r.yv C v
 | .enter f args, v => Pure C f args v
 | _, _ => False
theorem av.HV {K : AV -> St -> Prop} {Kp : AV -> St -> Prop} : ∀ (r : av) {v : AV}, r.yv C v -> K v U -> r.wp C U K Kp
 | .val _, _, h, hk => by simp only [av.yv] at h; subst h; exact hk
 | @av.cond _ _ r, _, h, hk => ⟨h.1, av.HV r h.2 hk⟩
 | .enter _ _, _, h, hk => h U _ hk
 | .jD _ _ _, _, h, _ => h.elim
 | .new _ _ _, _, h, _ => h.elim
 | .ji _ _, _, h, _ => h.elim
 | .yield _ _, _, h, _ => h.elim
 | .panic _, _, h, _ => h.elim
 | .bad, _, h, _ => h.elim
def c8 (B : List Nat) (aF U : St) : Prop := ∀ b ∈ B, U.live b = aF.live b
def Still (C : cu) (mu : List Nat) (ops : Array Oper) (B : List Nat) (aF : St) (o : Oper) (ρ : Env) (v : AV) : Prop :=
 (fV ops ρ o.guard = .bool true /\ quiet o.op = true /\ (ma o.op = true -> ∀ x ∈ o.op.operands.toList, ∀ b ∈ dM (ρ.ev C x), b ∈ B) /\ (gN C (nh mu o) o.op ρ aF).yv C v) \/ (fV ops ρ o.guard = .bool false /\ v = .aQ [])
theorem Still.put {mu : List Nat} {ops : Array Oper} {B : List Nat} {aF : St} {o : Oper} {v : AV} (h : Still C mu ops B aF o ρ v) {dst : Option Tmp} {u : AV} (hd : ∀ d, dst = some d -> d ∉ o.looksAt ops) : Still C mu ops B aF o (ρ.dO dst u) v := by
 unfold Still at h ⊢
 rw [AP ops o hd, F7 ops o hd]
 rcases h with ⟨h1, h2, h3, h4⟩ | h
 · refine .inl ⟨h1, h2, fun C7 x hx b hb => h3 C7 x hx b ?_, h4⟩
   rw [Fs fun d pB Ve => hd d pB (by
    subst Ve
    exact List.mem_append_left _ (List.mem_filterMap.2 ⟨.tmp d, hx, rfl⟩))] at hb
   exact hb
 · exact .inr h
theorem Still.step {mu : List Nat} {ops : Array Oper} {B : List Nat} {aF : St} {o : Oper} {v : AV} {i : Nat} {K : Env -> St -> Prop} {Kp : AV -> St -> Prop} (hi : ops[i]? = some o) (h : Still C mu ops B aF o ρ v) (hI : c8 B aF U) {I' : St -> Prop} (yC : I' U) (hk : K (ρ.dO o.dst v) U) :
 mf C mu ops I' i K Kp ρ U := by
 unfold mf
 rw [hi]
 dsimp only
 rcases h with ⟨h1, h2, h3, h4⟩ | ⟨h1, rfl⟩
 · rw [h1]
   refine ⟨fun _ => ?_, fun h => by cases h⟩
   have e := RZ (C := C) (ρ := ρ) (mu := nh mu o) (ae := U) (U := aF) o.op h2 (fun C7 x hx b hb => hI b (h3 C7 x (by simpa using hx) b hb))
   rw [e]
   exact av.HV _ h4 ⟨yC, hk⟩
 · rw [h1]
   exact ⟨fun h => (by cases h), fun _ => hk⟩
theorem zn {mu : List Nat} {ops : Array Oper} {I : St -> Prop} {i : Nat} {K K' : Env -> St -> Prop} {Kp : AV -> St -> Prop} (hI : I U) (hk : ∀ ρ U, I U -> K ρ U -> K' ρ U) (h : mf C mu ops I i K Kp ρ U) : mf C mu ops I i K' Kp ρ U := by
 unfold mf at h ⊢
 split
 · rename_i ho; rw [ho] at h; exact hk _ _ hI h
 · rename_i o ho
   rw [ho] at h
   dsimp only at h
   cases hg : fV ops ρ o.guard <;> rw [hg] at h <;> simp only [ao] at h ⊢
   exact ⟨fun e => av.wp_mono (fun v U hv => ⟨hv.1, hk _ _ hv.1 hv.2⟩) _ (h.1 e), fun e => hk _ _ hI (h.2 e)⟩
theorem yh {mu : List Nat} {ops : Array Oper} {B : List Nat} {aF : St} {K : Env -> St -> Prop} {Kp : AV -> St -> Prop} {i : Nat} {oi : Oper} {v : AV} (hi : ops[i]? = some oi) :
 ∀ (fuel : Nat) (listed : Array Bool) (ρ : Env) (U : St),
  (∀ j oj, ops[j]? = some oj -> j ≠ i -> listed.getD j true = false -> (∀ e ∈ oj.after, Region.binds .any e = true -> e.on ≠ i) -> oi.apart ops oj = true) ->
  i ∈ Region.ready .any ops listed -> Dn ops listed -> Still C mu ops B aF oi ρ v -> c8 B aF U ->
  ml C mu ops (c8 B aF) K Kp fuel (listed.setIfInBounds i true) (ρ.dO oi.dst v) U -> ml C mu ops (c8 B aF) K Kp (fuel + 1) listed ρ U := by
 intro fuel
 induction fuel with
 | zero =>
   intro listed ρ U _ hr hD hy hI H
   refine ⟨fun h => (by rw [h] at hr; cases hr), fun j hj => ?_⟩
   by_cases qt : j = i
   · subst qt; exact hy.step hi hI (.inr hI) H
   · have := ready_mono hj qt
     rw [H.1] at this
     cases this
 | succ fuel ih =>
   intro listed ρ U BU hr hD hy hI H
   refine ⟨fun h => (by rw [h] at hr; cases hr), fun j hj => ?_⟩
   by_cases qt : j = i
   · subst qt; exact hy.step hi hI (.inr hI) H
   · have h1 := H.2 j (ready_mono hj qt)
     obtain ⟨UI, oj, nF, bw⟩ := mem_ready.1 hj
     have NS : ∀ e ∈ oj.after, Region.binds .any e = true -> e.on ≠ i := fun e he hb heq => by
      have h1 := bw e he hb
      have h0 := (mem_ready.1 hr).1
      rw [heq] at h1
      rcases eD i listed.size with h' | h'
      · simp [h'] at h0 h1; rw [h0] at h1; cases h1
      · simp [ub h'] at h1
     obtain ⟨a1, a2, a3⟩ := Oper.apart_spec (BU j oj nF qt UI NS)
     have UE : ∀ k ok, ops[k]? = some ok -> k ≠ i -> (listed.setIfInBounds j true).getD k true = false ->
      (∀ e ∈ ok.after, Region.binds .any e = true -> e.on ≠ i) -> oi.apart ops ok = true := fun k ok hk FE Zi eV => by
      refine BU k ok hk FE ?_ eV
      by_cases yH : j = k
      · subst yH; exact UI
      · rw [getD_set_ne true yH] at Zi; exact Zi
     have IU : ¬ jh ops j = true := fun XH => by
      have h1 := uP hD hj XH i (iE.1 hi).1 (Ne.symm qt)
      have h0 := (mem_ready.1 hr).1
      rcases eD i listed.size with h' | h'
      · simp [h'] at h0 h1; rw [h0] at h1; cases h1
      · simp [ub h'] at h1
     have next : ∀ (u : AV) (ae : St), c8 B aF ae -> ml C mu ops (c8 B aF) K Kp fuel ((listed.setIfInBounds i true).setIfInBounds j true) ((ρ.dO oi.dst v).dO oj.dst u) ae ->
      ml C mu ops (c8 B aF) K Kp (fuel + 1) (listed.setIfInBounds j true) (ρ.dO oj.dst u) ae := fun u ae yC hA => by
      refine ih (listed.setIfInBounds j true) (ρ.dO oj.dst u) ae UE (ready_mono hr (Ne.symm qt)) (hD.set hj) (hy.put a3) yC ?_
      rw [Array.setIfInBounds_comm _ _ qt, <- JS (d := oi.dst) (d' := oj.dst) (fun t ht => a2 t ht)]
      exact hA
     unfold mf at h1 ⊢
     rw [nF] at h1 ⊢
     dsimp only at h1 ⊢
     rw [AP ops oj a1, F7 ops oj a1] at h1
     cases hg : fV ops ρ oj.guard <;> rw [hg] at h1 <;> simp only [ao] at h1 ⊢
     exact ⟨fun e => av.wp_mono (fun u ae hu => ⟨hu.1, next u ae (hu.1.resolve_left IU) hu.2⟩) _ (h1.1 e), fun e => next _ U hI (h1.2 e)⟩
def gO (ops : Array Oper) : List (Bool × Nat) -> Array Bool -> Bool
 | [], listed => (Region.ready .any ops listed).isEmpty
 | (true, i) :: r, listed => (Region.ready .any ops listed).contains i && Region.free .any ops listed i && gO ops r (listed.setIfInBounds i true)
 | (false, i) :: r, listed => (Region.ready .any ops listed == [i]) && gO ops r (listed.setIfInBounds i true)
def ky (C : cu) (mu : List Nat) (ops : Array Oper) (B : List Nat) (aF : St) (K : Env -> St -> Prop) (Kp : AV -> St -> Prop) : List (Bool × Nat) -> Env -> St -> Prop
 | [], ρ, U => K ρ U
 | (true, i) :: r, ρ, U => ∃ o v, ops[i]? = some o /\ Still C mu ops B aF o ρ v /\ ky C mu ops B aF K Kp r (ρ.dO o.dst v) U
 | (false, i) :: r, ρ, U => mf C mu ops (Ix ops (c8 B aF) i) i (ky C mu ops B aF K Kp r) Kp ρ U
theorem Oe {ops : Array Oper} {i : Nat} {listed : Array Bool} (hD : Dn ops listed) (hi : i ∈ Region.ready .any ops listed) (ha : jh ops i = true) : ∀ {r : List (Bool × Nat)}, gO ops r (listed.setIfInBounds i true) = true -> r = []
 | [], _ => rfl
 | (b, k) :: r, h => by
   exfalso
   have hk : k ∈ Region.ready .any ops (listed.setIfInBounds i true) := by
    cases b with
    | true => simp only [gO, bN] at h; simpa using h.1.1
    | false => simp only [gO, bN, beq_iff_eq] at h; rw [h.1]; simp
   obtain ⟨h0, ok, cD, _⟩ := mem_ready.1 hk
   have AS := (mem_ready.1 hi).1
   have bQ : k ≠ i := fun e => by
    subst e
    have aJ : k < listed.size := by
     rcases eD k listed.size with h | h
     · exact h
     · simp [ub h] at AS
    simp [aJ] at h0
   have h1 := uP hD hi ha k (iE.1 cD).1 bQ
   rw [getD_set_ne true (Ne.symm bQ)] at h0
   rcases eD k listed.size with h' | h'
   · simp [h'] at h0 h1; rw [h0] at h1; cases h1
   · simp [ub h'] at h1
theorem rA {mu : List Nat} {ops : Array Oper} {B : List Nat} {aF : St} {K : Env -> St -> Prop} {Kp : AV -> St -> Prop} : ∀ (cY : List (Bool × Nat)) (listed : Array Bool) (ρ : Env) (U : St), gO ops cY listed = true -> Dn ops listed -> (cY = [] \/ c8 B aF U) -> ky C mu ops B aF K Kp cY ρ U ->
 ml C mu ops (c8 B aF) K Kp cY.length listed ρ U
 | [], listed, ρ, U, hp, hD, hI, h => ⟨by simpa [gO] using hp, h⟩
 | (true, i) :: r, listed, ρ, U, hp, hD, hI, h => by
   have hI := hI.resolve_left (by simp)
   simp only [gO, bN] at hp
   obtain ⟨o, v, ho, eW, hr⟩ := h
   exact yh ho r.length listed ρ U (Region.free_spec ho hp.1.2) (by simpa using hp.1.1) hD eW hI (rA r _ _ U hp.2 (hD.set (by simpa using hp.1.1)) (.inr hI) hr)
 | (false, i) :: r, listed, ρ, U, hp, hD, hI, h => by
   have hS := hI.resolve_left (by simp)
   simp only [gO, bN, beq_iff_eq] at hp
   refine ⟨fun h0 => (by rw [hp.1] at h0; cases h0), fun j hj => ?_⟩
   have AT := hj
   rw [hp.1, lg] at hj
   subst hj
   exact zn (.inr hS) (fun dv ae yC hr => rA r _ dv ae hp.2 (hD.set AT) (yC.elim (fun ha => .inl (Oe hD AT ha hp.2)) .inr) hr) h
theorem bz.uf {id : Nat} {ops : Array Oper} (mu : List Nat) (B : List Nat) (cY : List (Bool × Nat)) (hm : C.P.follows .mixedOrders = true) (cD : kx nt ops = true) (hp : (gO ops cY (Array.replicate ops.size false) && (cY.length == ops.size)) = true)
 (h : ky C mu ops B U (KQ Q) (uM Q) cY ρ U) : bz C nt ro (.region id ops true) Q ρ U := by
 simp only [bN, beq_iff_eq] at hp
 refine bz.Bx mu (c8 B U) hm cD ?_
 have := rA cY _ ρ U hp.1 (Dn.none _ _) (.inr fun _ _ => rfl) h
 rw [hp.2] at this
 exact this
theorem av.Ek {K : AV -> St -> Prop} {Kp yg : AV -> St -> Prop} (hp : ∀ v U, Kp v U -> yg v U) : ∀ (r : av) {U : St}, r.wp C U K Kp -> r.wp C U K yg
 | .val _, _, h => h
 | .jD _ _ _, _, h => h
 | .new _ _ _, _, h => h
 | .ji _ _, _, h => h
 | .enter _ _, _, h => af.mono h fun r U hr => by cases r <;> first | exact hr | exact hp _ _ hr
 | .yield _ _, _, h => jK.mono h fun r U hr => by cases r <;> first | exact hr | exact hp _ _ hr
 | .panic _, _, h => hp _ _ h
 | @av.cond _ _ r, _, h => ⟨h.1, av.Ek hp r h.2⟩
 | .bad, _, h => h
theorem ig {mu : List Nat} {ops : Array Oper} {B : List Nat} {aF : St} {K K' : Env -> St -> Prop} {Kp yg : AV -> St -> Prop} (hk : ∀ ρ U, K ρ U -> K' ρ U) (hp : ∀ v U, Kp v U -> yg v U) : ∀ (l : List (Bool × Nat)) {ρ : Env} {U : St}, ky C mu ops B aF K Kp l ρ U -> ky C mu ops B aF K' yg l ρ U
 | [], _, _, h => hk _ _ h
 | (true, i) :: r, ρ, U, h => by
   obtain ⟨o, v, h1, h2, h3⟩ := h
   exact ⟨o, v, h1, h2, ig hk hp r h3⟩
 | (false, i) :: r, ρ, U, h => by
   simp only [ky, mf] at h ⊢
   split
   · rename_i ho; rw [ho] at h; exact ig hk hp r h
   · rename_i o ho
     rw [ho] at h
     dsimp only at h
     cases hg : fV ops ρ o.guard <;> rw [hg] at h <;> simp only [ao] at h ⊢
     exact ⟨fun e => av.wp_mono (fun v U hv => ⟨hv.1, ig hk hp r hv.2⟩) _ (av.Ek hp _ (h.1 e)), fun e => ig hk hp r (h.2 e)⟩
end
end Go.Rip
namespace Go.Rip
open Go.RowKit
def nV (kk : IntKind) (a : Int) (v : AV) (kv : List AV × List AV) : List AV × List AV := fh (.int kk a) v kv.1 kv.2
theorem rj (kk : IntKind) (a b : Int) : gD (.int kk a) (.int kk b) = decide (a < b) := by simp [gD]
def uL (kk : IntKind) (kv : List AV × List AV) : Prop := kv.1.length = kv.2.length /\ ∀ y ∈ kv.1, ∃ n, y = .int kk n
theorem Dg (k v : AV) : ∀ ks vs : List AV, ks.length = vs.length -> (fh k v ks vs).1.length = (fh k v ks vs).2.length
 | [], [], _ => rfl
 | y :: ys, w :: ws, h => by
   simp only [fh]
   split
   · simpa using h
   · simpa using Dg k v ys ws (by simpa using h)
 | [], _ :: _, h => by simp at h
 | _ :: _, [], h => by simp at h
theorem FR {kk : IntKind} {a : Int} {v : AV} {kv : List AV × List AV} (h : uL kk kv) : uL kk (nV kk a v kv) :=
 ⟨Dg _ _ _ _ h.1, fun y hy => by
   rcases tH _ _ y hy with rfl | hy
   · exact ⟨a, rfl⟩
   · exact h.2 y hy⟩
theorem Bc {kk : IntKind} {a b : Int} {v w : AV} (Fy : a ≠ b) : ∀ ks vs : List AV, ks.length = vs.length -> (∀ y ∈ ks, ∃ n, y = .int kk n) ->
 fh (.int kk a) v (fh (.int kk b) w ks vs).1 (fh (.int kk b) w ks vs).2 = fh (.int kk b) w (fh (.int kk a) v ks vs).1 (fh (.int kk a) v ks vs).2
 | [], [], _, _ => by
   simp only [fh, rj]
   by_cases h : a < b
   · have : ¬ b < a := by omega
     simp [h, this]
   · have : b < a := by omega
     simp [h, this]
 | y :: ys, x :: xs, h, hy => by
   obtain ⟨n, rfl⟩ := hy _ (List.mem_cons_self ..)
   have ih := Bc (v := v) (w := w) Fy ys xs (by simpa using h) (fun y hm => hy y (by simp [hm]))
   simp only [fh, rj]
   by_cases h1 : a < n <;> by_cases h2 : b < n <;> by_cases h3 : a < b
   all_goals (have h4 : b < a \/ ¬ b < a := by omega)
   all_goals (rcases h4 with h4 | h4 <;> simp only [h1, h2, h3, h4, bS, cm, if_true, if_false, bq, fh, rj] <;> first | omega | (simp only [ih]; done) | rfl | (simp [fh, rj, h1, h2, h3, h4, ih]; done))
 | [], _ :: _, h, _ => by simp at h
 | _ :: _, [], h, _ => by simp at h
theorem Jb {kk : IntKind} {a b : Int} {v w : AV} (Fy : a ≠ b) {kv : List AV × List AV} (h : uL kk kv) : nV kk a v (nV kk b w kv) = nV kk b w (nV kk a v kv) := Bc Fy kv.1 kv.2 h.1 h.2
structure rN where
 i : Nat
 key : Int
 val : AV
def mJ (kk : IntKind) (l : List rN) (kv : List AV × List AV) : List AV × List AV := l.foldl (fun kv x => nV kk x.key x.val kv) kv
theorem vu {kk : IntKind} : ∀ (oI : List rN) (x : rN) (oJ : List rN) {kv : List AV × List AV}, uL kk kv -> (∀ y ∈ oI, y.key ≠ x.key) -> mJ kk (oI ++ x :: oJ) kv = mJ kk (oI ++ oJ) (nV kk x.key x.val kv)
 | [], x, oJ, _, _, _ => rfl
 | y :: oI, x, oJ, kv, h, hk => by
   show mJ kk (oI ++ x :: oJ) (nV kk y.key y.val kv) = mJ kk (oI ++ oJ) (nV kk y.key y.val (nV kk x.key x.val kv))
   rw [vu oI x oJ (FR h) (fun z hz => hk z (by simp [hz])), Jb (hk y (by simp)).symm h]
theorem CD {kk : IntKind} {a : Int} : ∀ (ks : List AV) (i : Nat), (∀ y ∈ ks, ∃ n, y = .int kk n /\ n ≠ a) -> jG .i (.int kk a) ks i = some none
 | [], _, _ => rfl
 | y :: ys, i, h => by
   obtain ⟨n, rfl, hn⟩ := h _ (List.mem_cons_self ..)
   have bQ : (a == n) = false := by simpa using Ne.symm hn
   simp only [jG, fz, if_true, bQ, bq, if_false]
   exact CD ys (i + 1) fun y hy => h y (by simp [hy])
theorem set_set (U : St) (b : Nat) (x y : Live) : (U.set b x).set b y = U.set b y := by
 simp only [St.set, St.mk.injEq, and_true]; funext q; split <;> rfl
theorem Vq (U : St) (b : Nat) (ks vs : List AV) : (U.set b (.mp ks vs)).mp b = some (ks, vs) := by simp [St.mp, St.set]
section
variable {C : cu} {mu : List Nat} {ops : Array Oper} {B : List Nat} {aF : St} {K : Env -> St -> Prop} {Kp : AV -> St -> Prop}
def WT (C : cu) (ops : Array Oper) (ρ : Env) (t : TypeId) (m : Nat) (kk : IntKind) (listed : Array Bool) (x : rN) : Prop := ∃ o v, ops[x.i]? = some o /\ o.op = .insert t (.tmp m) (.const (.int kk x.key)) v /\ o.dst = none /\ o.guard = none /\ ρ.ev C v = x.val /\
 ∀ e ∈ o.after, Region.binds .any e = true -> listed.getD e.on false = true
def So (ops : Array Oper) (listed : Array Bool) (l : List rN) : Prop := ∀ j o, ops[j]? = some o -> listed.getD j true = false -> (∃ x ∈ l, x.i = j) \/ ∀ x ∈ l, ∃ e ∈ o.after, Region.binds .any e = true /\ e.on = x.i
theorem RA {t : TypeId} {m : Nat} {kk : IntKind} {e : TypeId} (ht : n0 C.P t = some (.i, e)) {id : Nat} {ρ : Env} (hm : ρ.get m = .mp id) (hB : id ∉ B) (mm : Nat) : ∀ (n : Nat) (l : List rN) (listed : Array Bool) (U : St) (kv : List AV × List AV), l.length = n ->
 (∀ x ∈ l, listed.getD x.i true = false) -> So ops listed l -> l.Pairwise (fun x y => x.i ≠ y.i /\ x.key ≠ y.key) -> (∀ x ∈ l, WT C ops ρ t m kk listed x) -> c8 B aF U -> uL kk kv ->
 (∀ x ∈ l, .int kk x.key ∉ kv.1) -> (∀ jS : Array Bool, jS.size = listed.size -> (∀ j, jS.getD j true = false ↔ listed.getD j true = false /\ ¬ ∃ x ∈ l, x.i = j) -> ml C mu ops (c8 B aF) K Kp mm jS ρ (U.set id (.mp (mJ kk l kv).1 (mJ kk l kv).2))) ->
 ml C mu ops (c8 B aF) K Kp (n + mm) listed ρ (U.set id (.mp kv.1 kv.2)) := by
 intro n
 induction n with
 | zero =>
   intro l listed U kv hl yI sE hp cD hI PM eV hK
   obtain rfl : l = [] := List.eq_nil_of_length_eq_zero hl
   rw [ck]
   exact hK listed rfl fun j => by simp
 | succ n ih =>
   intro l listed U kv hl yI sE hp cD hI PM eV hK
   have C6 : ∀ x ∈ l, x.i ∈ Region.ready .any ops listed := fun x hx => by
    obtain ⟨o, v, h1, _, _, _, _, h6⟩ := cD x hx
    exact mem_ready.2 ⟨yI x hx, o, h1, h6⟩
   rw [show n + 1 + mm = (n + mm) + 1 by omega]
   refine ⟨fun h => ?_, fun j hj => ?_⟩
   · obtain ⟨x, l', rfl⟩ : ∃ x l', l = x :: l' := by cases l with | nil => simp at hl | cons x l' => exact ⟨x, l', rfl⟩
     have := C6 x (by simp)
     rw [h] at this; cases this
   · obtain ⟨x, hx, rfl⟩ : ∃ x ∈ l, x.i = j := by
      obtain ⟨h0, oj, nF, bw⟩ := mem_ready.1 hj
      rcases sE j oj nF h0 with h | h
      · exact h
      · exfalso
        obtain ⟨x, l', rfl⟩ : ∃ x l', l = x :: l' := by cases l with | nil => simp at hl | cons x l' => exact ⟨x, l', rfl⟩
        obtain ⟨ed, he, hb, yL⟩ := h x (by simp)
        have k1 := bw ed he hb
        rw [yL] at k1
        have k2 := yI x (by simp)
        rcases eD x.i listed.size with h' | h'
        · simp [h'] at k1 k2; rw [k2] at k1; cases k1
        · simp [ub h'] at k1
     obtain ⟨o, v, h1, h2, h3, h4, h5, h6⟩ := cD x hx
     obtain ⟨oI, oJ, rfl⟩ := List.append_of_mem hx
     have hpa := hp
     rw [List.pairwise_append] at hp
     obtain ⟨p1, p2, p3⟩ := hp
     rw [List.pairwise_cons] at p2
     have GX : jG .i (.int kk x.key) kv.1 0 = some none := CD _ _ fun y hy => by
      obtain ⟨n, rfl⟩ := PM.2 y hy
      exact ⟨n, rfl, fun e => eV x hx (by rw [<- e]; exact hy)⟩
     unfold mf
     rw [h1]
     dsimp only
     rw [h4, h2, h3]
     refine ⟨fun _ => ?_, fun h => by cases h⟩
     have hop : gN C (nh mu o) (.insert t (.tmp m) (.const (.int kk x.key)) v) ρ (U.set id (.mp kv.1 kv.2)) = .jD (.aQ []) id (.mp (nV kk x.key x.val kv).1 (nV kk x.key x.val kv).2) := by
      show n6 C.P t (ρ.ev C (.tmp m)) (ρ.ev C (.const (.int kk x.key))) (ρ.ev C v) _ = _
      rw [h5, show ρ.ev C (.tmp m) = .mp id from hm, show ρ.ev C (.const (.int kk x.key)) = .int kk x.key from rfl]
      simp only [n6, ht, Vq, GX, nX, nV]
     rw [hop]
     refine ⟨.inr fun b hb => ?_, ?_⟩
     · have bQ : b ≠ id := fun e => hB (e ▸ hb)
       rw [set_set]
       simp only [St.set, if_neg bQ]
       exact hI b hb
     · show ml C mu ops (c8 B aF) K Kp (n + mm) (listed.setIfInBounds x.i true) ρ _
       rw [set_set]
       have aJ : x.i < listed.size := by
        have h0 := yI x hx
        rcases eD x.i listed.size with h | h
        · exact h
        · simp [ub h] at h0
       have P2 : (listed.setIfInBounds x.i true).getD x.i true = true := by simp [aJ]
       have nc : ∀ y ∈ oI ++ oJ, y ∈ oI ++ x :: oJ := fun y hy => by
        simp only [fC, ep] at hy ⊢
        rcases hy with hy | hy
        · exact .inl hy
        · exact .inr (.inr hy)
       have bQ : ∀ y ∈ oI ++ oJ, x.i ≠ y.i := fun y hy => by
        rcases fC.1 hy with hy | hy
        · exact (p3 y hy x (by simp)).1.symm
        · exact (p2.1 y hy).1
       refine ih (oI ++ oJ) (listed.setIfInBounds x.i true) U (nV kk x.key x.val kv) ?_ ?_ ?_ ?_ ?_ hI (FR PM) ?_ ?_
       · simp at hl ⊢; omega
       · intro y hy
         rw [getD_set_ne true (bQ y hy)]
         exact yI y (nc y hy)
       · intro j oj nF h0
         have YW : x.i ≠ j := fun e => by subst e; rw [P2] at h0; cases h0
         rw [getD_set_ne true YW] at h0
         rcases sE j oj nF h0 with ⟨y, hy, rfl⟩ | h
         · left
           refine ⟨y, ?_, rfl⟩
           simp only [fC, ep] at hy ⊢
           rcases hy with hy | rfl | hy
           · exact .inl hy
           · exact absurd rfl YW
           · exact .inr hy
         · right
           exact fun y hy => h y (nc y hy)
       · rw [List.pairwise_append]
         exact ⟨p1, p2.2, fun y hy z hz => p3 y hy z (by simp [hz])⟩
       · intro y hy
         obtain ⟨o', v', q1, q2, q3, q4, q5, q6⟩ := cD y (by simp only [fC, ep] at hy ⊢; rcases hy with hy | hy; exact .inl hy; exact .inr (.inr hy))
         exact ⟨o', v', q1, q2, q3, q4, q5, fun ed he hb => getD_set_true (q6 ed he hb)⟩
       · intro y hy kj
         rcases tH _ _ _ kj with e | e
         · simp only [AV.int.injEq, true_and] at e
           rcases fC.1 hy with hy | hy
           · exact (p3 y hy x (by simp)).2 e
           · exact (p2.1 y hy).2 e.symm
         · exact eV y (by simp only [fC, ep] at hy ⊢; rcases hy with hy | hy; exact .inl hy; exact .inr (.inr hy)) e
       · rw [<- vu oI x oJ PM (fun y hy => (p3 y hy x (by simp)).2)]
         intro jS dA AW
         refine hK jS (by rw [dA]; simp) fun j => ?_
         rw [AW j]
         by_cases e : x.i = j
         · subst e
           rw [P2]
           constructor
           · rintro ⟨h, _⟩; cases h
           · rintro ⟨_, h⟩; exact absurd ⟨x, by simp, rfl⟩ h
         · rw [getD_set_ne true e]
           refine and_congr_right fun _ => not_congr ?_
           constructor
           · rintro ⟨y, hy, rfl⟩; exact ⟨y, nc y hy, rfl⟩
           · rintro ⟨y, hy, rfl⟩
             refine ⟨y, ?_, rfl⟩
             simp only [fC, ep] at hy ⊢
             rcases hy with hy | rfl | hy
             · exact .inl hy
             · exact absurd rfl e
             · exact .inr hy
def mN (ops : Array Oper) : List (Bool × Nat) -> Array Bool -> Option (Array Bool)
 | [], listed => some listed
 | (true, i) :: r, listed => cond ((Region.ready .any ops listed).contains i && Region.free .any ops listed i) (mN ops r (listed.setIfInBounds i true)) none
 | (false, i) :: r, listed => cond (Region.ready .any ops listed == [i] && !jh ops i) (mN ops r (listed.setIfInBounds i true)) none
theorem xT {m : Nat} {Nq : Array Bool} {K0 : Env -> St -> Prop} (tA : ∀ ρ U, Dn ops Nq -> c8 B aF U -> K0 ρ U -> ml C mu ops (c8 B aF) K Kp m Nq ρ U) : ∀ (cY : List (Bool × Nat)) (listed : Array Bool) (ρ : Env) (U : St), mN ops cY listed = some Nq -> Dn ops listed -> c8 B aF U -> ky C mu ops B aF K0 Kp cY ρ U ->
 ml C mu ops (c8 B aF) K Kp (cY.length + m) listed ρ U
 | [], listed, ρ, U, hp, hD, hI, h => by
   simp only [mN, gr] at hp
   subst hp
   simpa using tA ρ U hD hI h
 | (true, i) :: r, listed, ρ, U, hp, hD, hI, h => by
   simp only [mN] at hp
   cases hc : ((Region.ready .any ops listed).contains i && Region.free .any ops listed i) with
   | false => rw [hc] at hp; cases hp
   | true =>
     rw [hc] at hp
     simp only [bN] at hc
     obtain ⟨o, v, ho, eW, hr⟩ := h
     have := yh ho (r.length + m) listed ρ U (Region.free_spec ho hc.2) (by simpa using hc.1) hD eW hI (xT tA r _ _ U hp (hD.set (by simpa using hc.1)) hI hr)
     rw [show ((true, i) :: r).length + m = r.length + m + 1 by simp; omega]
     exact this
 | (false, i) :: r, listed, ρ, U, hp, hD, hI, h => by
   simp only [mN] at hp
   cases hc : (Region.ready .any ops listed == [i] && !jh ops i) with
   | false => rw [hc] at hp; cases hp
   | true =>
     rw [hc] at hp
     simp only [bN, beq_iff_eq, Bool.not_eq_true'] at hc
     obtain ⟨hc, IU⟩ := hc
     rw [show ((false, i) :: r).length + m = r.length + m + 1 by simp; omega]
     refine ⟨fun h0 => (by rw [hc] at h0; cases h0), fun j hj => ?_⟩
     have AT := hj
     rw [hc, lg] at hj
     subst hj
     exact zn (.inr hI) (fun dv ae yC hr => xT tA r _ dv ae hp (hD.set AT) (yC.resolve_left (by rw [IU]; simp)) hr) h
structure kY where
 t : TypeId
 m : Nat
 kk : IntKind
 l : List Nat
def G6 (I : kY) (o : Oper) : Option (Int × Operand) := match o.op, o.dst, o.guard with
 | .insert t (.tmp m) (.const (.int kk a)) v, none, none => cond (Nat.beq t I.t && (Nat.beq m I.m && decide (kk = I.kk))) (some (a, v)) none
 | _, _, _ => none
def jO (ops : Array Oper) (I : kY) (i : Nat) : Option (Int × Operand) := (ops[i]?).bind (G6 I)
def BP (listed : Array Bool) (o : Oper) : Bool := o.after.toList.all fun e => !Region.binds .any e || listed.getD e.on false
def zJ (ops : Array Oper) (I : kY) (listed : Array Bool) : Bool := (List.range ops.size).all fun j => listed.getD j true || (I.l.contains j || (match ops[j]? with
 | some o => I.l.all fun i => o.after.toList.any fun e => Region.binds .any e && Nat.beq e.on i
 | none => true))
def nG (ops : Array Oper) (I : kY) (listed : Array Bool) : Bool :=
 zJ ops I listed && (I.l.all (fun i => !listed.getD i true) && (Nat.beq listed.size ops.size && (I.l.all (fun i => Nat.blt i ops.size && ((jO ops I i).isSome && (match ops[i]? with | some o => BP listed o | none => false)))
  && (decide I.l.Nodup && decide (I.l.map fun i => ((jO ops I i).map (·.1)).getD 0).Nodup))))
def eS (listed : Array Bool) (l : List Nat) : Array Bool := l.foldl (fun a i => a.setIfInBounds i true) listed
theorem sd : ∀ (l : List Nat) (a : Array Bool), (eS a l).size = a.size
 | [], _ => rfl
 | i :: l, a => by
   show (eS (a.setIfInBounds i true) l).size = _
   rw [sd l]; simp
theorem uh : ∀ (l : List Nat) (a : Array Bool) (j : Nat), (eS a l).getD j true = false ↔ a.getD j true = false /\ j ∉ l
 | [], _, _ => by simp [eS]
 | i :: l, a, j => by
   show (eS (a.setIfInBounds i true) l).getD j true = false ↔ _
   rw [uh l]
   by_cases e : i = j
   · subst e
     have : (a.setIfInBounds i true).getD i true = true := by
      by_cases h : i < a.size
      · simp [h]
      · simp [ub (Nat.le_of_not_lt h)]
     rw [this]; simp
   · rw [getD_set_ne true e]; simp [Ne.symm e]
def kV (C : cu) (ops : Array Oper) (ρ : Env) (I : kY) : List rN := I.l.filterMap fun i => (jO ops I i).map fun p => ⟨i, p.1, ρ.ev C p.2⟩
def G5 (C : cu) (ops : Array Oper) (B : List Nat) (I : kY) (K : Env -> St -> Prop) (ρ : Env) (U : St) : Prop :=
 ∃ id, ρ.get I.m = .mp id /\ U.mp id = some ([], []) /\ id ∉ B /\ K ρ (U.set id (.mp (mJ I.kk (kV C ops ρ I) ([], [])).1 (mJ I.kk (kV C ops ρ I) ([], [])).2))
theorem G7 {I : kY} {o : Oper} {a : Int} {v : Operand} (h : G6 I o = some (a, v)) : o.op = .insert I.t (.tmp I.m) (.const (.int I.kk a)) v /\ o.dst = none /\ o.guard = none := by
 unfold G6 at h
 split at h
 · rename_i t m kk a' v' h1 h2 h3
   cases hc : (Nat.beq t I.t && (Nat.beq m I.m && decide (kk = I.kk))) with
   | false => rw [hc] at h; cases h
   | true =>
     rw [hc] at h
     simp only [bN, cP] at hc
     obtain ⟨e1, e2, e3⟩ := hc
     have e1 := dZ e1
     have e2 := dZ e2
     simp only [cond_true, gr, jz] at h
     obtain ⟨rfl, rfl⟩ := h
     exact ⟨by rw [h1, e1, e2, e3], h2, h3⟩
 · cases h
theorem E9 {U : St} {id : Nat} {kv : List AV × List AV} (h : U.mp id = some kv) : U.set id (.mp kv.1 kv.2) = U := by
 have := St.mM.1 h
 simp only [St.set]
 cases U with
 | mk live nb =>
   simp only [St.mk.injEq, and_true]
   funext q
   split
   · rename_i e; subst e; exact this.symm
   · rfl
theorem Dn.eS {I : kY} {listed : Array Bool} (hD : Dn ops listed) (hc : nG ops I listed = true) : Dn ops (Go.Rip.eS listed I.l) := by
 simp only [nG, bN, dJ] at hc
 obtain ⟨h0, h1, h2, h3, _⟩ := hc
 have h2 := dZ h2
 have mono : ∀ (l : List Nat) (a : Array Bool) (j : Nat), a.getD j false = true -> (Go.Rip.eS a l).getD j false = true := fun l => by
  induction l with
  | nil => exact fun a j h => h
  | cons i l ih => exact fun a j h => ih _ j (getD_set_true h)
 intro m o ho hl e he hb
 by_cases hm : m ∈ I.l
 · have := (h3 m hm).2.2
   rw [ho] at this
   simp only [BP, dJ, ja] at this
   have := this e (by simpa using he)
   rw [hb] at this
   exact mono _ _ _ (by simpa using this)
 · have aJ : m < listed.size := by rw [h2]; exact (iE.1 ho).1
   have hlm : listed.getD m false = true := by
    cases hh : listed.getD m true with
    | false =>
      have k := (uh I.l listed m).2 ⟨hh, hm⟩
      have hs : m < (Go.Rip.eS listed I.l).size := by rw [sd]; exact aJ
      simp [hs] at k hl
      rw [k] at hl; cases hl
    | true => simp [aJ] at hh ⊢; exact hh
   exact mono _ _ _ (hD m o ho hlm e he hb)
theorem Jc {I : kY} {listed : Array Bool} {e : TypeId} {mm : Nat} {K1 : Env -> St -> Prop} (ht : n0 C.P I.t = some (.i, e)) (hc : nG ops I listed = true)
 (hK1 : ∀ ρ U, Dn ops (eS listed I.l) -> c8 B aF U -> K1 ρ U -> ml C mu ops (c8 B aF) K Kp mm (eS listed I.l) ρ U) : ∀ ρ U, Dn ops listed -> c8 B aF U -> G5 C ops B I K1 ρ U -> ml C mu ops (c8 B aF) K Kp (I.l.length + mm) listed ρ U := by
 rintro ρ U hD hI ⟨id, hm, CX, hB, hK⟩
 have hDs := hD.eS hc
 simp only [nG, bN, dJ, cP, Bool.not_eq_true'] at hc
 obtain ⟨h0, h1, h2, h3, h4, h5⟩ := hc
 have h2 := dZ h2
 have G1 : ∀ i ∈ I.l, ∃ a v, jO ops I i = some (a, v) := fun i hi => by
  have := (h3 i hi).2.1
  obtain ⟨p, hp⟩ := Option.isSome_iff_exists.1 this
  exact ⟨p.1, p.2, hp⟩
 have kj : ∀ x, x ∈ kV C ops ρ I ↔ ∃ i ∈ I.l, ∃ a v, jO ops I i = some (a, v) /\ x = ⟨i, a, ρ.ev C v⟩ := fun x => by
  simp only [kV, List.mem_filterMap, mA]
  constructor
  · rintro ⟨i, hi, ⟨a, v⟩, hp, rfl⟩; exact ⟨i, hi, a, v, hp, rfl⟩
  · rintro ⟨i, hi, a, v, hp, rfl⟩; exact ⟨i, hi, (a, v), hp, rfl⟩
 have kJ : ∀ j, (∃ x ∈ kV C ops ρ I, x.i = j) ↔ j ∈ I.l := fun j => by
  constructor
  · rintro ⟨x, hx, rfl⟩
    obtain ⟨i, hi, a, v, hp, rfl⟩ := (kj _).1 hx
    exact hi
  · intro hj
    obtain ⟨a, v, hp⟩ := G1 j hj
    exact ⟨_, (kj _).2 ⟨j, hj, a, v, hp, rfl⟩, rfl⟩
 rw [<- E9 CX]
 have hlen : (kV C ops ρ I).length = I.l.length := by
  have : ∀ l : List Nat, (∀ i ∈ l, ∃ a v, jO ops I i = some (a, v)) -> (l.filterMap fun i => (jO ops I i).map fun p => (⟨i, p.1, ρ.ev C p.2⟩ : rN)).length = l.length := fun l => by
   induction l with
   | nil => intro _; rfl
   | cons i l ih =>
     intro h
     obtain ⟨a, v, hp⟩ := h i (by simp)
     simp only [List.filterMap_cons, hp, Option.map_some, jy, ih fun j hj => h j (by simp [hj])]
  exact this _ G1
 have hpw : (kV C ops ρ I).Pairwise (fun x y => x.i ≠ y.i /\ x.key ≠ y.key) := by
  have : ∀ l : List Nat, (∀ i ∈ l, ∃ a v, jO ops I i = some (a, v)) -> l.Nodup -> (l.map fun i => ((jO ops I i).map (·.1)).getD 0).Nodup -> (l.filterMap fun i => (jO ops I i).map fun p => (⟨i, p.1, ρ.ev C p.2⟩ : rN)).Pairwise (fun x y => x.i ≠ y.i /\ x.key ≠ y.key) := fun l => by
   induction l with
   | nil => intro _ _ _; exact List.Pairwise.nil
   | cons i l ih =>
     intro h hn hk
     obtain ⟨a, v, hp⟩ := h i (by simp)
     rw [List.nodup_cons] at hn
     rw [dy, List.nodup_cons] at hk
     simp only [List.filterMap_cons, hp, Option.map_some]
     refine List.Pairwise.cons (fun y hy => ?_) (ih (fun j hj => h j (by simp [hj])) hn.2 hk.2)
     rw [List.mem_filterMap] at hy
     obtain ⟨j, hj, YX⟩ := hy
     rw [mA] at YX
     obtain ⟨p, FH, rfl⟩ := YX
     refine ⟨fun e => hn.1 (by have e : i = j := e; rw [e]; exact hj), fun e => hk.1 ?_⟩
     have e : a = p.1 := e
     refine List.mem_map.2 ⟨j, hj, ?_⟩
     rw [FH, hp]; simp [e]
  exact this _ G1 h4 h5
 refine RA (kk := I.kk) ht hm hB mm _ (kV C ops ρ I) listed U ([], []) hlen ?_ ?_ hpw ?_ hI ⟨rfl, fun y hy => by cases hy⟩ (fun x hx => by simp) ?_
 · intro x hx
   exact h1 x.i ((kJ x.i).1 ⟨x, hx, rfl⟩)
 · intro j o ho hj
   have aJ : j < ops.size := (iE.1 ho).1
   simp only [zJ, dJ, List.mem_range, ja] at h0
   have := h0 j aJ
   rw [ho, hj] at this
   rcases this with h | h | h
   · cases h
   · left; exact (kJ j).2 (by simpa using h)
   · right
     intro x hx
     simp only [dJ] at h
     have := h x.i ((kJ x.i).1 ⟨x, hx, rfl⟩)
     rw [List.any_eq_true] at this
     obtain ⟨ed, he, hb⟩ := this
     simp only [bN] at hb
     exact ⟨ed, by simpa using he, hb.1, dZ hb.2⟩
 · intro x hx
   obtain ⟨i, hi, a, v, hp, rfl⟩ := (kj _).1 hx
   unfold jO at hp
   rw [Option.bind_eq_some_iff] at hp
   obtain ⟨o, ho, hp⟩ := hp
   obtain ⟨q1, q2, q3⟩ := G7 hp
   refine ⟨o, v, ho, q1, q2, q3, rfl, fun ed he hb => ?_⟩
   have := (h3 i hi).2.2
   rw [ho] at this
   simp only [BP, dJ, ja] at this
   have := this ed (by simpa using he)
   rw [hb] at this
   simpa using this
 · intro jS dA AW
   have e : jS = eS listed I.l := by
    apply Array.ext (by rw [sd, dA])
    intro j uE ov
    have k1 := AW j
    have k2 := uh I.l listed j
    rw [kJ] at k1
    have k3 : jS.getD j true = false ↔ (eS listed I.l).getD j true = false := k1.trans k2.symm
    have e1 : jS.getD j true = jS[j] := by simp [uE]
    have e2 : (eS listed I.l).getD j true = (eS listed I.l)[j] := by simp [ov]
    rw [e1, e2] at k3
    cases h1 : jS[j] <;> cases h2 : (eS listed I.l)[j] <;> simp_all
   rw [e]
   refine hK1 ρ _ hDs ?_ hK
   intro b hb
   have bQ : b ≠ id := fun e => hB (e ▸ hb)
   simp only [St.set, if_neg bQ]
   exact hI b hb
def rC (P : Program) (ops : Array Oper) (cY : List (Bool × Nat)) (I : kY) (post : List (Bool × Nat)) : Bool :=
 (match mN ops cY (Array.replicate ops.size false) with | some l => nG ops I l && gO ops post (eS l I.l) | none => false) && (Nat.beq (cY.length + (I.l.length + post.length)) ops.size && (match n0 P I.t with | some (.i, _) => true | _ => false))
theorem bz.JW {nt id : Nat} {ro : Ro} {Q : Ex -> Env -> St -> Prop} {ρ : Env} {U : St} (cY : List (Bool × Nat)) (I : kY) (post : List (Bool × Nat)) (hm : C.P.follows .mixedOrders = true) (cD : kx nt ops = true) (hp : rC C.P ops cY I post = true)
 (h : ky C mu ops B U (G5 C ops B I (ky C mu ops B U (KQ Q) (uM Q) post)) (uM Q) cY ρ U) : bz C nt ro (.region id ops true) Q ρ U := by
 simp only [rC, bN] at hp
 obtain ⟨h1, h2, h3⟩ := hp
 have h2 := dZ h2
 split at h3
 · rename_i e ht
   split at h1
   · rename_i l hl
     rw [bN] at h1
     refine bz.Bx mu (c8 B U) hm cD ?_
     have := xT (Jc ht h1.1 (fun dv ae hD' yC hk => rA post _ dv ae h1.2 hD' (.inr yC) hk)) cY _ ρ U hl (Dn.none _ _) (fun _ _ => rfl) h
     rw [h2] at this
     exact this
   · cases h1
 · cases h3
end
end Go.Rip
namespace Go.Rip
open Go.RowKit
structure Row where
 d : Nat
 l : Nat
 a : Nat
def Gw : Option Nat -> Nat
 | some d => 2 ^ d
 | none => 0
def mX : List Nat -> Nat
 | [] => 0
 | d :: l => Nat.lor (2 ^ d) (mX l)
theorem db (k : Nat) : ∀ l : List Nat, (mX l).testBit k = true ↔ k ∈ l
 | [] => by simp [mX]
 | d :: l => by
   show (2 ^ d ||| mX l).testBit k = true ↔ _
   rw [Nat.testBit_or, Nat.testBit_two_pow, ja, db k l]
   simp [eq_comm]
theorem gQ (k : Nat) (o : Option Nat) : (Gw o).testBit k = true ↔ o = some k := by
 cases o with
 | none => simp [Gw]
 | some d => simp [Gw, Nat.testBit_two_pow]
def uO (o : Oper) : List Nat := (o.after.toList.filter fun e => Region.binds .any e).map (·.on)
def rowOf (ops : Array Oper) (o : Oper) : Row := ⟨Gw o.dst, mX (o.looksAt ops), mX (uO o)⟩
def kH (a b : Nat) : Bool := Nat.beq (Nat.land a b) a
def GC (a b : Nat) : Bool := Nat.beq (Nat.land a b) 0
theorem pg {a b : Nat} (h : kH a b = true) (k : Nat) (hk : a.testBit k = true) : b.testBit k = true := by
 have e : a &&& b = a := dZ h
 have := congrArg (fun n => n.testBit k) e
 simp only [Nat.testBit_and, hk, Bool.true_and] at this
 exact this
theorem ny {a b : Nat} (h : GC a b = true) (k : Nat) (hk : a.testBit k = true) : ¬ b.testBit k = true := by
 have e : a &&& b = 0 := dZ h
 have := congrArg (fun n => n.testBit k) e
 simp only [Nat.testBit_and, hk, Bool.true_and, Nat.zero_testBit] at this
 simp [this]
def hasB (m i : Nat) : Bool := Nat.beq (Nat.land (Nat.shiftRight m i) 1) 1
theorem kU (m i : Nat) : hasB m i = m.testBit i := by
 have e : Nat.land (Nat.shiftRight m i) 1 = 1 &&& (m >>> i) := Nat.and_comm _ _
 unfold hasB Nat.testBit
 rw [e]
 cases h : Nat.beq (1 &&& m >>> i) 1 with
 | true => have := dZ h; rw [this]; rfl
 | false =>
   have h1 : (1 &&& m >>> i) ≠ 1 := fun e => by rw [e] at h; simp at h
   have h2 : (1 &&& m >>> i) = 0 := by
    have : 1 &&& (m >>> i) = (m >>> i) % 2 := Nat.one_and_eq_mod_two _
    omega
   rw [h2]; rfl
def BZ (i : Nat) (x y : Row) : Bool := hasB y.a i || (GC x.d y.l && (GC x.d y.d && GC y.d x.l))
def xB (done i : Nat) (x : Row) : List Row -> Nat -> Bool
 | [], _ => true
 | y :: r, j => (Nat.beq j i || (hasB done j || BZ i x y)) && xB done i x r (j + 1)
def xA (done i : Nat) : List Row -> Nat -> Bool
 | [], _ => true
 | y :: r, j => (Nat.beq j i || (hasB done j || !kH y.a done)) && xA done i r (j + 1)
def tV (rows : List Row) (n : Nat) : List (Bool × Nat) -> Nat -> Bool
 | [], done => Nat.beq done (2 ^ n - 1)
 | (true, i) :: r, done => match rows[i]? with
   | some x => !hasB done i && (kH x.a done && (xB done i x rows 0 && tV rows n r (Nat.lor done (2 ^ i))))
   | none => false
 | (false, i) :: r, done => match rows[i]? with
   | some x => !hasB done i && (kH x.a done && (xA done i rows 0 && tV rows n r (Nat.lor done (2 ^ i))))
   | none => false
theorem uR {done i : Nat} {x : Row} : ∀ {l : List Row} {j : Nat}, xB done i x l j = true -> ∀ k y, l[k]? = some y -> (j + k = i \/ done.testBit (j + k) = true \/ BZ i x y = true)
 | [], _, _, k, y, hy => by simp at hy
 | z :: r, j, h, k, y, hy => by
   simp only [xB, bN, ja, kU] at h
   cases k with
   | zero =>
     simp at hy; subst hy
     rcases h.1 with h | h | h
     · exact .inl (dZ h)
     · exact .inr (.inl h)
     · exact .inr (.inr h)
   | succ k =>
     have := uR h.2 k y (by simpa using hy)
     rw [show j + (k + 1) = j + 1 + k by omega]; exact this
theorem uQ {done i : Nat} : ∀ {l : List Row} {j : Nat}, xA done i l j = true -> ∀ k y, l[k]? = some y -> (j + k = i \/ done.testBit (j + k) = true \/ kH y.a done = false)
 | [], _, _, k, y, hy => by simp at hy
 | z :: r, j, h, k, y, hy => by
   simp only [xA, bN, ja, kU, Bool.not_eq_true'] at h
   cases k with
   | zero =>
     simp at hy; subst hy
     rcases h.1 with h | h | h
     · exact .inl (dZ h)
     · exact .inr (.inl h)
     · exact .inr (.inr h)
   | succ k =>
     have := uQ h.2 k y (by simpa using hy)
     rw [show j + (k + 1) = j + 1 + k by omega]; exact this
def fQ (n : Nat) (listed : Array Bool) (done : Nat) : Prop := listed.size = n /\ ∀ k, k < n -> listed[k]? = some (done.testBit k)
section
variable {ops : Array Oper} {listed : Array Bool} {done : Nat}
theorem fQ.get (h : fQ ops.size listed done) {k : Nat} (hk : k < ops.size) (d : Bool) : listed.getD k d = done.testBit k := by
 have := h.2 k hk
 simp [this]
theorem fQ.out (h : fQ ops.size listed done) {k : Nat} (hk : ¬ k < ops.size) (d : Bool) : listed.getD k d = d := by
 have : listed[k]? = none := ub (by rw [h.1]; omega)
 simp [this]
theorem fQ.set (h : fQ ops.size listed done) (i : Nat) : fQ ops.size (listed.setIfInBounds i true) (Nat.lor done (2 ^ i)) := by
 refine ⟨by simp [h.1], fun k hk => ?_⟩
 show _ = some ((done ||| 2 ^ i).testBit k)
 rw [Nat.testBit_or, Nat.testBit_two_pow]
 by_cases e : i = k
 · subst e
   have : i < listed.size := by rw [h.1]; exact hk
   simp [Array.getElem?_setIfInBounds, this]
 · rw [Array.getElem?_setIfInBounds_ne e, h.2 k hk]
   simp [e]
theorem ug {i : Nat} {x : Row} (h : (ops.toList.map (rowOf ops))[i]? = some x) : ∃ o, ops[i]? = some o /\ x = rowOf ops o := by
 rw [kB, mA] at h
 obtain ⟨o, ho, e⟩ := h
 exact ⟨o, by simpa using ho, e.symm⟩
theorem p4 {o : Oper} {k : Nat} : k ∈ uO o ↔ ∃ e ∈ o.after, Region.binds .any e = true /\ e.on = k := by
 simp [uO, and_assoc]
theorem nJ (h : fQ ops.size listed done) {j : Nat} {o : Oper} (ho : ops[j]? = some o) : j ∈ Region.ready .any ops listed ↔ done.testBit j = false /\ ∀ k, k ∈ uO o -> k < ops.size /\ done.testBit k = true := by
 have hj : j < ops.size := (iE.1 ho).1
 rw [mem_ready, h.get hj]
 refine and_congr_right fun _ => ⟨?_, ?_⟩
 · rintro ⟨o', PU, bw⟩ k hk
   rw [ho] at PU; cases PU
   obtain ⟨e, he, hb, rfl⟩ := p4.1 hk
   have := bw e he hb
   by_cases hk : e.on < ops.size
   · rw [h.get hk] at this; exact ⟨hk, this⟩
   · rw [h.out hk] at this; cases this
 · intro bw
   refine ⟨o, ho, fun e he hb => ?_⟩
   obtain ⟨hk, ht⟩ := bw e.on (p4.2 ⟨e, he, hb, rfl⟩)
   rw [h.get hk]; exact ht
theorem BK {i : Nat} {o : Oper} (hm : fQ ops.size listed done) (ho : ops[i]? = some o) (h3 : xB done i (rowOf ops o) (ops.toList.map (rowOf ops)) 0 = true) : Region.free .any ops listed i = true := by
 simp only [Region.free, ho, dJ, List.mem_range, ja]
 intro j hj
 obtain ⟨oj, nF⟩ : ∃ oj, ops[j]? = some oj := ⟨ops[j], by simp [hj]⟩
 rw [nF]
 have hy : (ops.toList.map (rowOf ops))[j]? = some (rowOf ops oj) := by
  rw [kB]; simp [nF]
 rcases uR h3 j _ hy with e | e | e
 · left; left; simp at e; simp [e]
 · left; right; rw [hm.get hj]; simpa using e
 · right
   simp only [BZ, ja, bN, kU] at e
   show ((oj.after.any fun e => Region.binds .any e && e.on == i) || o.apart ops oj) = true
   rw [ja]
   rcases e with e | ⟨e1, e2, e3⟩
   · left
     have := (db i _).1 e
     obtain ⟨ed, he, hb, yL⟩ := p4.1 this
     rw [Array.any_eq_true']
     exact ⟨ed, he, by simp [hb, yL]⟩
   · right
     have k1 : ∀ d, o.dst = some d -> d ∉ oj.looksAt ops := fun d hd hm => ny e1 d ((gQ d _).2 hd) ((db d _).2 hm)
     have k2 : ∀ d, o.dst = some d -> oj.dst ≠ some d := fun d hd hm => ny e2 d ((gQ d _).2 hd) ((gQ d _).2 hm)
     have k3 : ∀ d, oj.dst = some d -> d ∉ o.looksAt ops := fun d hd hm => ny e3 d ((gQ d _).2 hd) ((db d _).2 hm)
     unfold Oper.apart
     cases wZ : o.dst <;> cases uD : oj.dst <;> simp only [bN, Bool.not_eq_true', bne_iff_ne, ne_eq, Bool.and_self, and_self, true_and, and_true]
     · rename_i d; simpa using k3 d uD
     · rename_i d; exact ⟨by simpa using k1 d wZ, by simp⟩
     · rename_i d d'
       refine ⟨⟨by simpa using k1 d wZ, fun e => k2 d wZ (by rw [uD]; exact e)⟩, by simpa using k3 d' uD⟩
theorem vP {i : Nat} {o : Oper} (hm : fQ ops.size listed done) (ho : ops[i]? = some o) (h1 : done.testBit i = false) (sub : ∀ k, k ∈ uO o -> k < ops.size /\ done.testBit k = true) (h3 : xA done i (ops.toList.map (rowOf ops)) 0 = true) : Region.ready .any ops listed = [i] := by
 have key : ∀ j, j ∈ Region.ready .any ops listed -> j = i := fun j hj => by
  obtain ⟨h0, oj, nF, _⟩ := mem_ready.1 hj
  have hr := (nJ hm nF).1 hj
  have CR : j < ops.size := (iE.1 nF).1
  have hy : (ops.toList.map (rowOf ops))[j]? = some (rowOf ops oj) := by
   rw [kB]; simp [nF]
  rcases uQ h3 j _ hy with e | e | e
  · simpa using e
  · rw [ck] at e; rw [hr.1] at e; cases e
  · exfalso
    have : kH (rowOf ops oj).a done = true := by
     unfold kH
     have e2 : (rowOf ops oj).a &&& done = (rowOf ops oj).a := by
      apply Nat.eq_of_testBit_eq
      intro k
      rw [Nat.testBit_and]
      cases hk : (rowOf ops oj).a.testBit k with
      | false => rfl
      | true => rw [(hr.2 k ((db k _).1 hk)).2]; rfl
     show Nat.beq ((rowOf ops oj).a &&& done) _ = true
     rw [e2]; simp
    rw [this] at e; cases e
 have kj := (nJ hm ho).2 ⟨h1, sub⟩
 have hnd : (Region.ready .any ops listed).Nodup := (List.Pairwise.filter _ List.nodup_range)
 match hl : Region.ready .any ops listed with
 | [] => rw [hl] at kj; cases kj
 | [x] => rw [hl] at key; rw [key x (by simp)]
 | x :: y :: zs =>
   rw [hl] at key hnd
   have e1 := key x (by simp)
   have e2 := key y (by simp)
   subst e1; subst e2
   simp at hnd
theorem tW : ∀ (cY : List (Bool × Nat)) (listed : Array Bool) (done : Nat), fQ ops.size listed done -> done < 2 ^ ops.size -> tV (ops.toList.map (rowOf ops)) ops.size cY done = true -> gO ops cY listed = true
 | [], listed, done, hm, aJ, h => by
   have e : done = 2 ^ ops.size - 1 := dZ h
   simp only [gO, List.isEmpty_iff]
   rw [List.eq_nil_iff_forall_not_mem]
   intro j hj
   obtain ⟨h0, o, ho, _⟩ := mem_ready.1 hj
   have CR : j < ops.size := (iE.1 ho).1
   rw [hm.get CR, e, Nat.testBit_two_pow_sub_one] at h0
   simp [CR] at h0
 | (true, i) :: r, listed, done, hm, aJ, h => by
   simp only [tV] at h
   split at h
   · rename_i x hx
     obtain ⟨o, ho, rfl⟩ := ug hx
     simp only [bN, Bool.not_eq_true', kU] at h
     obtain ⟨h1, h2, h3, h4⟩ := h
     have hi : i < ops.size := (iE.1 ho).1
     have mv : Nat.lor done (2 ^ i) < 2 ^ ops.size := Nat.or_lt_two_pow aJ (Nat.pow_lt_pow_right (by omega) hi)
     have sub : ∀ k, k ∈ uO o -> k < ops.size /\ done.testBit k = true := fun k hk => by
      have := pg h2 k ((db k _).2 hk)
      refine ⟨?_, this⟩
      rcases eD k ops.size with h | h
      · exact h
      · rw [Nat.testBit_lt_two_pow (Nat.lt_of_lt_of_le aJ (Nat.pow_le_pow_right (by omega) h))] at this; cases this
     simp only [gO, bN]
     refine ⟨⟨?_, ?_⟩, tW r _ _ (hm.set i) mv h4⟩
     · simp only [List.contains_iff_mem]
       exact (nJ hm ho).2 ⟨h1, sub⟩
     · simp only [Region.free, ho, dJ, List.mem_range, ja]
       intro j hj
       obtain ⟨oj, nF⟩ : ∃ oj, ops[j]? = some oj := ⟨ops[j], by simp [hj]⟩
       rw [nF]
       have hy : (ops.toList.map (rowOf ops))[j]? = some (rowOf ops oj) := by
        rw [kB]; simp [nF]
       rcases uR h3 j _ hy with e | e | e
       · left; left; simp at e; simp [e]
       · left; right; rw [hm.get hj]; simpa using e
       · right
         simp only [BZ, ja, bN, kU] at e
         show ((oj.after.any fun e => Region.binds .any e && e.on == i) || o.apart ops oj) = true
         rw [ja]
         rcases e with e | ⟨e1, e2, e3⟩
         · left
           have := (db i _).1 e
           obtain ⟨ed, he, hb, yL⟩ := p4.1 this
           rw [Array.any_eq_true']
           exact ⟨ed, he, by simp [hb, yL]⟩
         · right
           have k1 : ∀ d, o.dst = some d -> d ∉ oj.looksAt ops := fun d hd hm => ny e1 d ((gQ d _).2 hd) ((db d _).2 hm)
           have k2 : ∀ d, o.dst = some d -> oj.dst ≠ some d := fun d hd hm => ny e2 d ((gQ d _).2 hd) ((gQ d _).2 hm)
           have k3 : ∀ d, oj.dst = some d -> d ∉ o.looksAt ops := fun d hd hm => ny e3 d ((gQ d _).2 hd) ((db d _).2 hm)
           unfold Oper.apart
           cases wZ : o.dst <;> cases uD : oj.dst <;> simp only [bN, Bool.not_eq_true', bne_iff_ne, ne_eq, Bool.and_self, and_self, true_and, and_true]
           · rename_i d; simpa using k3 d uD
           · rename_i d; exact ⟨by simpa using k1 d wZ, by simp⟩
           · rename_i d d'
             refine ⟨⟨by simpa using k1 d wZ, fun e => k2 d wZ (by rw [uD]; exact e)⟩, by simpa using k3 d' uD⟩
   · cases h
 | (false, i) :: r, listed, done, hm, aJ, h => by
   simp only [tV] at h
   split at h
   · rename_i x hx
     obtain ⟨o, ho, rfl⟩ := ug hx
     simp only [bN, Bool.not_eq_true', kU] at h
     obtain ⟨h1, h2, h3, h4⟩ := h
     have hi : i < ops.size := (iE.1 ho).1
     have mv : Nat.lor done (2 ^ i) < 2 ^ ops.size := Nat.or_lt_two_pow aJ (Nat.pow_lt_pow_right (by omega) hi)
     have sub : ∀ k, k ∈ uO o -> k < ops.size /\ done.testBit k = true := fun k hk => by
      have := pg h2 k ((db k _).2 hk)
      refine ⟨?_, this⟩
      rcases eD k ops.size with h | h
      · exact h
      · rw [Nat.testBit_lt_two_pow (Nat.lt_of_lt_of_le aJ (Nat.pow_le_pow_right (by omega) h))] at this; cases this
     simp only [gO, bN, beq_iff_eq]
     refine ⟨?_, tW r _ _ (hm.set i) mv h4⟩
     have key : ∀ j, j ∈ Region.ready .any ops listed -> j = i := fun j hj => by
      obtain ⟨h0, oj, nF, _⟩ := mem_ready.1 hj
      have hr := (nJ hm nF).1 hj
      have CR : j < ops.size := (iE.1 nF).1
      have hy : (ops.toList.map (rowOf ops))[j]? = some (rowOf ops oj) := by
       rw [kB]; simp [nF]
      rcases uQ h3 j _ hy with e | e | e
      · simpa using e
      · rw [ck] at e; rw [hr.1] at e; cases e
      · exfalso
        have : kH (rowOf ops oj).a done = true := by
         unfold kH
         have e2 : (rowOf ops oj).a &&& done = (rowOf ops oj).a := by
          apply Nat.eq_of_testBit_eq
          intro k
          rw [Nat.testBit_and]
          cases hk : (rowOf ops oj).a.testBit k with
          | false => rfl
          | true => rw [(hr.2 k ((db k _).1 hk)).2]; rfl
         show Nat.beq ((rowOf ops oj).a &&& done) _ = true
         rw [e2]; simp
        rw [this] at e; cases e
     have kj := (nJ hm ho).2 ⟨h1, sub⟩
     have hnd : (Region.ready .any ops listed).Nodup := (List.Pairwise.filter _ List.nodup_range)
     match hl : Region.ready .any ops listed with
     | [] => rw [hl] at kj; cases kj
     | [x] => rw [hl] at key; rw [key x (by simp)]
     | x :: y :: zs =>
       rw [hl] at key hnd
       have e1 := key x (by simp)
       have e2 := key y (by simp)
       subst e1; subst e2
       simp at hnd
   · cases h
end
def zg : List Row -> List Row -> Bool
 | [], [] => true
 | x :: xs, y :: ys => Nat.beq x.d y.d && (Nat.beq x.l y.l && (Nat.beq x.a y.a && zg xs ys))
 | _, _ => false
theorem x5 : ∀ {a b : List Row}, zg a b = true -> a = b
 | [], [], _ => rfl
 | x :: xs, y :: ys, h => by
   simp only [zg, bN] at h
   obtain ⟨h1, h2, h3, h4⟩ := h
   obtain ⟨a, b, c⟩ := x
   obtain ⟨a', b', c'⟩ := y
   have e1 : a = a' := dZ h1
   have e2 : b = b' := dZ h2
   have e3 : c = c' := dZ h3
   rw [e1, e2, e3, x5 h4]
 | [], _ :: _, h => by cases h
 | _ :: _, [], h => by cases h
structure Pl where
 steps : List (Bool × Nat)
 rows : List Row
def Hx (ops : Array Oper) (p : Pl) : Bool := zg (ops.toList.map (rowOf ops)) p.rows && (tV p.rows ops.size p.steps 0 && Nat.beq p.steps.length ops.size)
theorem F9 {ops : Array Oper} {p : Pl} (h : Hx ops p = true) : (gO ops p.steps (Array.replicate ops.size false) && (p.steps.length == ops.size)) = true := by
 simp only [Hx, bN] at h
 obtain ⟨h1, h2, h3⟩ := h
 rw [<- x5 h1] at h2
 simp only [bN, beq_iff_eq]
 refine ⟨tW _ _ 0 ⟨by simp, fun k hk => by simp [hk]⟩ (Nat.two_pow_pos _) h2, dZ h3⟩
def nI (ops : Array Oper) (rows : List Row) : List (Bool × Nat) -> Nat -> Option Nat
 | [], done => some done
 | (true, i) :: r, done => match rows[i]? with
   | some x => cond (!hasB done i && (kH x.a done && xB done i x rows 0)) (nI ops rows r (Nat.lor done (2 ^ i))) none
   | none => none
 | (false, i) :: r, done => match rows[i]? with
   | some x => cond (!hasB done i && (kH x.a done && (xA done i rows 0 && !jh ops i))) (nI ops rows r (Nat.lor done (2 ^ i))) none
   | none => none
section
variable {ops : Array Oper}
theorem tX : ∀ (cY : List (Bool × Nat)) (listed : Array Bool) (done dn : Nat), fQ ops.size listed done -> done < 2 ^ ops.size -> nI ops (ops.toList.map (rowOf ops)) cY done = some dn ->
 ∃ l, mN ops cY listed = some l /\ fQ ops.size l dn /\ dn < 2 ^ ops.size
 | [], listed, done, dn, hm, aJ, h => by
   simp only [nI, gr] at h
   subst h
   exact ⟨listed, rfl, hm, aJ⟩
 | (b, i) :: r, listed, done, dn, hm, aJ, h => by
   obtain ⟨x, hx⟩ : ∃ x, (ops.toList.map (rowOf ops))[i]? = some x := by
    cases b <;> simp only [nI] at h <;> split at h <;> first | exact ⟨_, by assumption⟩ | cases h
   obtain ⟨o, ho, rfl⟩ := ug hx
   have hi : i < ops.size := (iE.1 ho).1
   have mv : Nat.lor done (2 ^ i) < 2 ^ ops.size := Nat.or_lt_two_pow aJ (Nat.pow_lt_pow_right (by omega) hi)
   have sub : kH (rowOf ops o).a done = true -> ∀ k, k ∈ uO o -> k < ops.size /\ done.testBit k = true := fun h2 k hk => by
    have := pg h2 k ((db k _).2 hk)
    refine ⟨?_, this⟩
    rcases eD k ops.size with h | h
    · exact h
    · rw [Nat.testBit_lt_two_pow (Nat.lt_of_lt_of_le aJ (Nat.pow_le_pow_right (by omega) h))] at this; cases this
   cases b with
   | true =>
     simp only [nI, hx] at h
     cases hc : (!hasB done i && (kH (rowOf ops o).a done && xB done i (rowOf ops o) (ops.toList.map (rowOf ops)) 0)) with
     | false => rw [hc] at h; cases h
     | true =>
       rw [hc, cond_true] at h
       simp only [bN, Bool.not_eq_true', kU] at hc
       obtain ⟨l, k1, k2, k3⟩ := tX r _ _ dn (hm.set i) mv h
       refine ⟨l, ?_, k2, k3⟩
       have C6 : (Region.ready .any ops listed).contains i = true := by
        simp only [List.contains_iff_mem]; exact (nJ hm ho).2 ⟨hc.1, sub hc.2.1⟩
       have BU : Region.free .any ops listed i = true := BK hm ho hc.2.2
       simp only [mN, C6, BU, Bool.and_self, cond_true]
       exact k1
   | false =>
     simp only [nI, hx] at h
     cases hc : (!hasB done i && (kH (rowOf ops o).a done && (xA done i (ops.toList.map (rowOf ops)) 0 && !jh ops i))) with
     | false => rw [hc] at h; cases h
     | true =>
       rw [hc, cond_true] at h
       simp only [bN, Bool.not_eq_true', kU] at hc
       obtain ⟨l, k1, k2, k3⟩ := tX r _ _ dn (hm.set i) mv h
       refine ⟨l, ?_, k2, k3⟩
       have rU : Region.ready .any ops listed = [i] := vP hm ho hc.1 (sub hc.2.1) hc.2.2.1
       have IU : jh ops i = false := by simpa using hc.2.2.2
       simp only [mN, rU, IU, dw, da, Bool.and_self, cond_true]
       exact k1
def Gu (im : Nat) (done : Nat) : List Row -> Nat -> Bool
 | [], _ => true
 | y :: r, j => (hasB done j || (hasB im j || kH im y.a)) && Gu im done r (j + 1)
def Jk (ops : Array Oper) (rows : List Row) (I : kY) (done : Nat) : Bool := I.l.all fun i => !hasB done i && ((jO ops I i).isSome && (match rows[i]? with | some x => kH x.a done | none => false))
def increasing : List Nat -> Bool
 | a :: b :: l => Nat.blt a b && increasing (b :: l)
 | _ => true
def oZ : List Int -> Bool
 | a :: b :: l => decide (a < b) && oZ (b :: l)
 | _ => true
def xU (P : Program) (ops : Array Oper) (rows : List Row) (cY : List (Bool × Nat)) (I : kY) (post : List (Bool × Nat)) : Bool :=
 zg (ops.toList.map (rowOf ops)) rows && ((match nI ops rows cY 0 with
  | some dn => Gu (mX I.l) dn rows 0 && (Jk ops rows I dn && tV rows ops.size post (Nat.lor dn (mX I.l)))
  | none => false) && (increasing I.l && (oZ (I.l.map fun i => ((jO ops I i).map (·.1)).getD 0) && (Nat.beq (cY.length + (I.l.length + post.length)) ops.size && (match n0 P I.t with | some (.i, _) => true | _ => false)))))
theorem uG : ∀ l : List Nat, increasing l = true -> l.Pairwise (· < ·)
 | [], _ => List.Pairwise.nil
 | [a], _ => List.pairwise_singleton ..
 | a :: b :: l, h => by
   simp only [increasing, bN] at h
   have Fy : a < b := Nat.le_of_ble_eq_true h.1
   have ih := uG (b :: l) h.2
   refine List.Pairwise.cons (fun y hy => ?_) ih
   rcases ep.1 hy with rfl | hy
   · exact Fy
   · exact Nat.lt_trans Fy ((List.pairwise_cons.1 ih).1 y hy)
theorem sM : ∀ l : List Int, oZ l = true -> l.Pairwise (· < ·)
 | [], _ => List.Pairwise.nil
 | [a], _ => List.pairwise_singleton ..
 | a :: b :: l, h => by
   simp only [oZ, bN, cP] at h
   have ih := sM (b :: l) h.2
   refine List.Pairwise.cons (fun y hy => ?_) ih
   rcases ep.1 hy with rfl | hy
   · exact h.1
   · exact Int.lt_trans h.1 ((List.pairwise_cons.1 ih).1 y hy)
theorem AB {im done : Nat} : ∀ {l : List Row} {j : Nat}, Gu im done l j = true -> ∀ k y, l[k]? = some y -> (done.testBit (j + k) = true \/ im.testBit (j + k) = true \/ kH im y.a = true)
 | [], _, _, k, y, hy => by simp at hy
 | z :: r, j, h, k, y, hy => by
   simp only [Gu, bN, ja, kU] at h
   cases k with
   | zero => simp at hy; subst hy; exact h.1
   | succ k =>
     have := AB h.2 k y (by simpa using hy)
     rw [show j + (k + 1) = j + 1 + k by omega]; exact this
theorem fQ.eS {n : Nat} : ∀ (l : List Nat) (listed : Array Bool) (done : Nat), fQ ops.size listed done -> fQ ops.size (Go.Rip.eS listed l) (Nat.lor done (mX l))
 | [], listed, done, h => by
   show fQ ops.size listed (done ||| 0)
   rw [Nat.or_zero]; exact h
 | i :: l, listed, done, h => by
   have := fQ.eS (n := n) l _ _ (h.set i)
   show fQ ops.size (Go.Rip.eS (listed.setIfInBounds i true) l) (done ||| (2 ^ i ||| mX l))
   rw [<- Nat.or_assoc]; exact this
theorem EX {P : Program} {rows : List Row} {cY : List (Bool × Nat)} {I : kY} {post : List (Bool × Nat)} (h : xU P ops rows cY I post = true) : rC P ops cY I post = true := by
 simp only [xU, bN] at h
 obtain ⟨h1, h2, h3, h4, h5, h6⟩ := h
 rw [<- x5 h1] at h2
 split at h2
 · rename_i dn hd
   simp only [bN] at h2
   obtain ⟨b1, b2, b3⟩ := h2
   obtain ⟨l, k1, k2, k3⟩ := tX cY (Array.replicate ops.size false) 0 dn ⟨by simp, fun k hk => by simp [hk]⟩ (Nat.two_pow_pos _) hd
   have aad := uG _ h3
   have XQ := sM _ h4
   simp only [Jk, dJ, bN, Bool.not_eq_true', kU] at b2
   have tC : ∀ i ∈ I.l, ∃ o, ops[i]? = some o /\ kH (rowOf ops o).a dn = true := fun i hi => by
    have := (b2 i hi).2.2
    split at this
    · rename_i x hx
      obtain ⟨o, ho, rfl⟩ := ug hx
      exact ⟨o, ho, this⟩
    · cases this
   have aJ : ∀ i ∈ I.l, i < ops.size := fun i hi => by
    obtain ⟨o, ho, _⟩ := tC i hi
    exact (iE.1 ho).1
   have him : mX I.l < 2 ^ ops.size := by
    have : ∀ l : List Nat, (∀ i ∈ l, i < ops.size) -> mX l < 2 ^ ops.size := fun l => by
     induction l with
     | nil => intro _; exact Nat.two_pow_pos _
     | cons i l ih => intro hh; exact Nat.or_lt_two_pow (Nat.pow_lt_pow_right (by omega) (hh i (by simp))) (ih fun j hj => hh j (by simp [hj]))
    exact this _ aJ
   have Sw : ∀ {o : Oper} {m : Nat}, m < 2 ^ ops.size -> kH (rowOf ops o).a m = true -> ∀ e ∈ o.after, Region.binds .any e = true -> m.testBit e.on = true := fun {o m} IQ hs e he hb =>
    pg hs e.on ((db _ _).2 (p4.2 ⟨e, he, hb, rfl⟩))
   simp only [rC, k1, bN]
   refine ⟨⟨?_, tW post _ _ (fQ.eS (n := 0) I.l l dn k2) (Nat.or_lt_two_pow k3 him) b3⟩, h5, h6⟩
   simp only [nG, zJ, bN, dJ, List.mem_range, ja, cP, Bool.not_eq_true']
   refine ⟨fun j hj => ?_, fun i hi => ?_, ?_, fun i hi => ⟨?_, (b2 i hi).2.1, ?_⟩, aad.imp (fun h => Nat.ne_of_lt h), XQ.imp (fun h => Int.ne_of_lt h)⟩
   · obtain ⟨o, ho⟩ : ∃ o, ops[j]? = some o := ⟨ops[j], by simp [hj]⟩
     have hy : (ops.toList.map (rowOf ops))[j]? = some (rowOf ops o) := by rw [kB]; simp [ho]
     rcases AB b1 j _ hy with h | h | h
     · left; rw [k2.get hj]; simpa using h
     · right; left
       have := (db _ _).1 h
       simpa using this
     · right; right
       rw [ho]
       show (I.l.all fun i => o.after.toList.any fun e => Region.binds .any e && Nat.beq e.on i) = true
       rw [dJ]
       intro i hi
       have := pg h i ((db _ _).2 hi)
       obtain ⟨e, he, hb, yL⟩ := p4.1 ((db _ _).1 this)
       rw [List.any_eq_true]
       exact ⟨e, by simpa using he, by simp [hb, yL]⟩
   · rw [k2.get (aJ i hi)]; exact (b2 i hi).1
   · rw [k2.1]; simp
   · show Nat.ble (i + 1) ops.size = true
     exact Nat.ble_eq_true_of_le (aJ i hi)
   · obtain ⟨o, ho, hs⟩ := tC i hi
     rw [ho]
     simp only [BP, dJ, ja, Bool.not_eq_true']
     intro e he
     cases hb : Region.binds .any e with
     | false => exact .inl rfl
     | true =>
       right
       have ht := Sw k3 hs e (by simpa using he) hb
       have mv : e.on < ops.size := by
        rcases eD e.on ops.size with h | h
        · exact h
        · rw [Nat.testBit_lt_two_pow (Nat.lt_of_lt_of_le k3 (Nat.pow_le_pow_right (by omega) h))] at ht; cases ht
       rw [k2.get mv]; exact ht
 · cases h2
end
end Go.Rip
namespace Go.Rip
open Go.RowKit
inductive T (α : Type) where
 | e
 | n (l : T α) (v : Option α) (r : T α)
theorem vB {a b : Nat} (h : a ≠ b) : Nat.beq a b = false := by
 cases hb : Nat.beq a b with
 | false => rfl
 | true => exact absurd (dZ hb) h
theorem Hq {a b : Nat} (h : a = b) : Nat.beq a b = true := by subst h; exact Nat.beq_refl a
namespace T
variable {α : Type}
def get : T α -> Nat -> Option α
 | .e, _ => none
 | .n l v r, i => cond (Nat.beq i 0) v (cond (Nat.beq (i % 2) 1) (l.get (i / 2)) (r.get (i / 2 - 1)))
def ui : Nat -> T α -> Nat -> Option α -> T α
 | 0, t, _, _ => t
 | f + 1, .e, i, v => cond (Nat.beq i 0) (.n .e v .e) (cond (Nat.beq (i % 2) 1) (.n (ui f .e (i / 2) v) none .e) (.n .e none (ui f .e (i / 2 - 1) v)))
 | f + 1, .n l w r, i, v => cond (Nat.beq i 0) (.n l v r) (cond (Nat.beq (i % 2) 1) (.n (ui f l (i / 2) v) w r) (.n l w (ui f r (i / 2 - 1) v)))
def set (t : T α) (i : Nat) (v : Option α) : T α := ui (i + 1) t i v
theorem ND : ∀ (f : Nat) (t : T α) (i j : Nat) (v : Option α), i < f -> (ui f t i v).get j = if j = i then v else t.get j := by
 intro f
 induction f with
 | zero => intro t i j v h; omega
 | succ f ih =>
   intro t i j v h
   have key : ∀ (l r : T α) (w : Option α), (cond (Nat.beq i 0) (.n l v r) (cond (Nat.beq (i % 2) 1) (.n (ui f l (i / 2) v) w r) (.n l w (ui f r (i / 2 - 1) v))) : T α).get j = if j = i then v else (T.n l w r).get j := fun l r w => by
    by_cases hi : i = 0
    · subst hi
      simp only [Nat.beq_refl, cond_true, get]
      by_cases hj : j = 0
      · subst hj; simp
      · have : Nat.beq j 0 = false := vB hj
        simp [this, hj]
    · have AS : Nat.beq i 0 = false := vB hi
      rw [AS, cond_false]
      by_cases h1 : i % 2 = 1
      · have hb : Nat.beq (i % 2) 1 = true := Hq h1
        rw [hb, cond_true]
        simp only [get]
        by_cases hj : j = 0
        · subst hj
          have : (0 : Nat) ≠ i := fun e => hi e.symm
          simp [this]
        · have AT : Nat.beq j 0 = false := vB hj
          rw [AT, cond_false, cond_false]
          by_cases uE : j % 2 = 1
          · have CS : Nat.beq (j % 2) 1 = true := Hq uE
            rw [CS, cond_true, cond_true, ih _ _ _ _ (by omega)]
            by_cases e : j = i
            · subst e; simp
            · rw [if_neg (by omega), if_neg e]
          · have CS : Nat.beq (j % 2) 1 = false := vB uE
            rw [CS, cond_false, cond_false, if_neg (by omega)]
      · have hb : Nat.beq (i % 2) 1 = false := vB h1
        rw [hb, cond_false]
        simp only [get]
        by_cases hj : j = 0
        · subst hj
          have : (0 : Nat) ≠ i := fun e => hi e.symm
          simp [this]
        · have AT : Nat.beq j 0 = false := vB hj
          rw [AT, cond_false, cond_false]
          by_cases uE : j % 2 = 1
          · have CS : Nat.beq (j % 2) 1 = true := Hq uE
            rw [CS, cond_true, cond_true, if_neg (by omega)]
          · have CS : Nat.beq (j % 2) 1 = false := vB uE
            rw [CS, cond_false, cond_false, ih _ _ _ _ (by omega)]
            by_cases e : j = i
            · subst e; simp
            · rw [if_neg (by omega), if_neg e]
   cases t with
   | n l w r => exact key l r w
   | e =>
     have := key .e .e none
     simp only [ui]
     rw [this]
     congr 1
     simp only [get]
     cases Nat.beq j 0 <;> cases Nat.beq (j % 2) 1 <;> rfl
theorem p7 (t : T α) (i j : Nat) (v : Option α) : (t.set i v).get j = if j = i then v else t.get j := ND _ _ _ _ _ (by omega)
def F3 : List α -> Nat -> T α -> T α
 | [], _, t => t
 | x :: xs, i, t => F3 xs (i + 1) (t.set i (some x))
theorem Fx : ∀ (l : List α) (i : Nat) (t : T α) (j : Nat), (F3 l i t).get j = if i <= j /\ j < i + l.length then l[j - i]? else t.get j
 | [], i, t, j => by simp [F3]; omega
 | x :: xs, i, t, j => by
   simp only [F3]
   rw [Fx xs (i + 1) _ j, p7]
   by_cases h1 : i + 1 <= j /\ j < i + 1 + xs.length
   · rw [if_pos h1, if_pos (by simp; omega)]
     have : j - i = (j - (i + 1)) + 1 := by omega
     rw [this]; simp
   · rw [if_neg h1]
     by_cases h2 : j = i
     · subst h2; simp
     · rw [if_neg h2, if_neg (by simp; omega)]
end T
def ee (t : T AV) : Env := ⟨fun i => (t.get i).getD (.aQ [])⟩
theorem Il (t : T AV) (d : Nat) (v : AV) : ee (t.set d (some v)) = (ee t).put d v := by
 simp only [ee, Env.put, Env.mk.injEq]
 funext i
 rw [T.p7]
 split <;> rfl
def vI (t : T AV) : Option Nat -> AV -> T AV
 | some d, v => t.set d (some v)
 | none, _ => t
theorem nz (t : T AV) (d : Option Nat) (v : AV) : ee (vI t d v) = (ee t).dO d v := by
 cases d with
 | none => rfl
 | some d => exact Il t d v
theorem GD (l : List AV) : ee (T.F3 l 0 .e) = Env.gM l := by
 simp only [ee, Env.gM, Env.mk.injEq]
 funext i
 rw [T.Fx]
 by_cases h : i < l.length
 · rw [if_pos (by omega)]; simp [sa]
 · rw [if_neg (by omega)]
   simp [T.get, sa, oK (Nat.le_of_not_lt h)]
structure ES where
 live : T Live
 n : Nat
def bD (e : ES) : St := ⟨fun b => e.live.get b, some e.n⟩
def ES.set (e : ES) (b : Nat) (x : Live) : ES := ⟨e.live.set b (some x), e.n⟩
def ES.del (e : ES) (b : Nat) : ES := ⟨e.live.set b none, e.n⟩
def ES.pn (e : ES) : Option Nat -> ES
 | some b => e.del b
 | none => e
def ES.new (e : ES) (x : Live) : ES := ⟨e.live.set e.n (some x), e.n + 1⟩
theorem kF (e : ES) (b : Nat) (x : Live) : bD (e.set b x) = (bD e).set b x := by
 simp only [bD, ES.set, St.set, St.mk.injEq, and_true]
 funext y; rw [T.p7]
theorem x8 (e : ES) (b : Nat) : bD (e.del b) = (bD e).del b := by
 simp only [bD, ES.del, St.del, St.mk.injEq, and_true]
 funext y; rw [T.p7]
theorem MF (e : ES) (b : Option Nat) : bD (e.pn b) = (bD e).pn b := by
 cases b with
 | none => rfl
 | some b => exact x8 e b
theorem oP (e : ES) (x : Live) : bD (e.new x) = (bD e).new e.n x := by
 simp only [bD, ES.new, St.new, St.mk.injEq, Option.map_some, and_true]
 funext y; rw [T.p7]
def Nu : Fn -> Fn -> Bool
 | .func a, .func b => Nat.beq a b
 | _, _ => false
theorem Rs {a b : Fn} (h : Nu a b = true) : a = b := by
 cases a <;> cases b <;> simp only [Nu, bq] at h
 rw [dZ h]
def GF : iV -> iV -> Bool
 | .full, .full => true
 | .own a, .own b => Nat.beq a b
 | .iW, .iW => true
 | _, _ => false
theorem Nt {a b : iV} (h : GF a b = true) : a = b := by
 cases a <;> cases b <;> simp only [GF, bq] at h <;> first
  | rfl
  | rw [dZ h]
mutual
def gu : AV -> AV -> Bool
 | .bool a, .bool b => a == b
 | .int k a, .int k' b => decide (k = k') && decide (a = b)
 | .str a, .str b => decide (a = b)
 | .a7, .a7 | .al, .al | .jT, .jT | .cZ, .cZ | .cN, .cN => true
 | .box a i, .box b j => Nat.beq a b && Nat.beq i j
 | .cj l, .cj l' => mq l l'
 | .vec n c l, .vec n' c' l' => Nat.beq n n' && GF c c' && mq l l'
 | .ms b o n z e, .ms b' o' n' z' e' => Nat.beq b b' && Nat.beq o o' && Nat.beq n n' && Nat.beq z z' && Nat.beq e e'
 | .mp a, .mp b => Nat.beq a b
 | .eI ks vs, .eI ks' vs' => mq ks ks' && mq vs vs'
 | .func f a b, .func f' a' b' => Nu f f' && mq a a' && mq b b'
 | .iface t v, .iface t' v' => Nat.beq t t' && gu v v'
 | .agg l, .agg l' => mq l l'
 | .aQ l, .aQ l' => mq l l'
 | .pj a, .pj b => Nat.beq a b
 | .it a, .it b => Nat.beq a b
 | .any, .any => true
 | _, _ => false
def mq : List AV -> List AV -> Bool
 | [], [] => true
 | x :: xs, y :: ys => gu x y && mq xs ys
 | _, _ => false
end
mutual
theorem sx : ∀ {a b : AV}, gu a b = true -> a = b
 | .bool a, b, h => by cases b <;> simp only [gu, bq] at h; simpa using h
 | .int k a, b, h => by cases b <;> simp only [gu, bq] at h; simpa using h
 | .str a, b, h => by cases b <;> simp only [gu, bq] at h; simpa using h
 | .a7, b, h => by cases b <;> simp only [gu, bq] at h; rfl
 | .al, b, h => by cases b <;> simp only [gu, bq] at h; rfl
 | .jT, b, h => by cases b <;> simp only [gu, bq] at h; rfl
 | .cZ, b, h => by cases b <;> simp only [gu, bq] at h; rfl
 | .cN, b, h => by cases b <;> simp only [gu, bq] at h; rfl
 | .box a i, b, h => by cases b <;> simp only [gu, bq, bN] at h; rw [dZ h.1, dZ h.2]
 | .cj l, b, h => by cases b <;> simp only [gu, bq] at h; rw [iq h]
 | .vec n c l, b, h => by cases b <;> simp only [gu, bq, bN] at h; rw [dZ h.1.1, Nt h.1.2, iq h.2]
 | .ms b o n z e, b', h => by
   cases b' <;> simp only [gu, bq, bN] at h
   rw [dZ h.1.1.1.1, dZ h.1.1.1.2, dZ h.1.1.2, dZ h.1.2, dZ h.2]
 | .mp a, b, h => by cases b <;> simp only [gu, bq] at h; rw [dZ h]
 | .eI ks vs, b, h => by cases b <;> simp only [gu, bq, bN] at h; rw [iq h.1, iq h.2]
 | .func f a b, b', h => by cases b' <;> simp only [gu, bq, bN] at h; rw [Rs h.1.1, iq h.1.2, iq h.2]
 | .iface t v, b, h => by cases b <;> simp only [gu, bq, bN] at h; rw [dZ h.1, sx h.2]
 | .agg l, b, h => by cases b <;> simp only [gu, bq] at h; rw [iq h]
 | .aQ l, b, h => by cases b <;> simp only [gu, bq] at h; rw [iq h]
 | .pj a, b, h => by cases b <;> simp only [gu, bq] at h; rw [dZ h]
 | .it a, b, h => by cases b <;> simp only [gu, bq] at h; rw [dZ h]
 | .any, b, h => by cases b <;> simp only [gu, bq] at h; rfl
theorem iq : ∀ {a b : List AV}, mq a b = true -> a = b
 | [], b, h => by cases b <;> simp only [mq, bq] at h; rfl
 | x :: xs, b, h => by cases b <;> simp only [mq, bq, bN] at h; rw [sx h.1, iq h.2]
end
def CB : Option Live -> Option Live -> Bool
 | some (.box l), some (.box l') => mq l l'
 | some (.mp a b), some (.mp a' b') => mq a a' && mq b b'
 | _, _ => false
theorem Im {a b : Option Live} (h : CB a b = true) : a = b := by
 unfold CB at h
 split at h
 · rw [iq h]
 · simp only [bN] at h; rw [iq h.1, iq h.2]
 · cases h
end Go.Rip
namespace Go.Rip
open Go.RowKit
structure gh where
 C : cu
 mu : Nat -> List Nat
 pf : Nat -> Bool
 sm : Nat -> List AV -> Option AV
 QP : Nat -> List AV -> ES -> Option (AV × ES)
 tr : Nat -> Bool
 ft : TypeId
 ins : Nat -> Nat -> Option (List Row × List (Bool × Nat) × kY × List (Bool × Nat)) := fun _ _ => none
abbrev KR := cB -> ES -> Bool
abbrev KC := Ex -> T AV -> ES -> Bool
abbrev pJ := Nat -> List AV -> ES -> KR -> Bool
def rK (k kp : AV -> ES -> Bool) : KR
 | .ret v, e => k v e
 | .panic v, e => kp v e
def wC (cf cy : pJ) (e : ES) : av -> (AV -> ES -> Bool) -> (AV -> ES -> Bool) -> Bool
 | .val v, k, _ => k v e
 | .jD v b x, k, _ => k v (e.set b x)
 | .new kd del x, k, _ => k (kd.at e.n) ((e.pn del).new x)
 | .ji b l, k, _ => l.all fun p => k p.1 (e.set b p.2)
 | .enter f args, k, kp => cf f args e (rK k kp)
 | .yield o args, k, kp => cy o args e (rK k kp)
 | .panic v, _, kp => kp v e
 | @av.cond p d r, k, kp => (@decide p d) && wC cf cy e r k kp
 | .bad, _, _ => false
def yw (V : gh) (cf cy : pJ) (mu : List Nat) (ops : Array Oper) : List Oper -> T AV -> ES -> (T AV -> ES -> Bool) -> (AV -> ES -> Bool) -> Bool
 | [], ρ, e, k, _ => k ρ e
 | o :: rest, ρ, e, k, kp => match fV ops (ee ρ) o.guard with
   | .bool true => wC cf cy e (gN V.C (nh mu o) o.op (ee ρ) (bD e)) (fun v e' => yw V cf cy mu ops rest (vI ρ o.dst v) e' k kp) kp
   | .bool false => yw V cf cy mu ops rest (vI ρ o.dst (.aQ [])) e k kp
   | _ => false
def Gn (V : gh) : av -> Option AV
 | .val v => some v
 | @av.cond p d r => cond (@decide p d) (Gn V r) none
 | .enter f args => V.sm f args
 | _ => none
def HE (B : List Nat) (e0 e : ES) : Bool := B.all fun b => CB (e.live.get b) (e0.live.get b)
def zT (C : cu) (B : List Nat) (ρ : Env) (op : Op) : Bool := op.operands.toList.all fun x => (dM (ρ.ev C x)).all fun b => B.any fun c => Nat.beq c b
def mF (V : gh) (cf cy : pJ) (mu : List Nat) (ops : Array Oper) (B : List Nat) (e0 : ES) : List (Bool × Nat) -> T AV -> ES -> (T AV -> ES -> Bool) -> (AV -> ES -> Bool) -> Bool
 | [], ρ, e, k, _ => k ρ e
 | (true, i) :: r, ρ, e, k, kp => match ops[i]? with
   | none => false
   | some o => match fV ops (ee ρ) o.guard with
     | .bool true => quiet o.op && (!ma o.op || zT V.C B (ee ρ) o.op) && (match Gn V (gN V.C (nh mu o) o.op (ee ρ) (bD e0)) with
       | some v => mF V cf cy mu ops B e0 r (vI ρ o.dst v) e k kp
       | none => false)
     | .bool false => mF V cf cy mu ops B e0 r (vI ρ o.dst (.aQ [])) e k kp
     | _ => false
 | (false, i) :: r, ρ, e, k, kp => match ops[i]? with
   | none => false
   | some o => match fV ops (ee ρ) o.guard with
     | .bool true => wC cf cy e (gN V.C (nh mu o) o.op (ee ρ) (bD e)) (fun v e' => (HE B e0 e' || jh ops i) && mF V cf cy mu ops B e0 r (vI ρ o.dst v) e' k kp) kp
     | .bool false => mF V cf cy mu ops B e0 r (vI ρ o.dst (.aQ [])) e k kp
     | _ => false
def JT (V : gh) (o : Oper) : Bool := match o.op with
 | .call c => match c.callee with
   | .value (.func f) => V.pf f
   | .value _ => false
   | _ => quiet o.op
 | op => quiet op
def vA (V : gh) (ops : Array Oper) : Nat -> Array Bool -> List (Bool × Nat)
 | 0, _ => []
 | n + 1, listed => match (Region.ready .any ops listed).find? fun i => match ops[i]? with | some o => JT V o | none => false with
   | some i => (true, i) :: vA V ops n (listed.setIfInBounds i true)
   | none => match Region.ready .any ops listed with
     | i :: _ => (false, i) :: vA V ops n (listed.setIfInBounds i true)
     | [] => []
def preB (V : gh) (mu : List Nat) (e0 : ES) : List Oper -> T AV -> List Nat -> List Nat
 | [], _, B => B
 | o :: r, ρ, B => preB V mu e0 r (vI ρ o.dst (cond (JT V o) ((Gn V (gN V.C (nh mu o) o.op (ee ρ) (bD e0))).getD .any) .any)) (cond (ma o.op) (o.op.operands.toList.flatMap (fun x => dM ((ee ρ).ev V.C x)) ++ B) B)
def Hl (P : Program) (ty : TypeId) (p : AV) (U : St) : Option AV := match rn P ty p U with
 | .val v => some v
 | @av.cond q d (.val v) => cond (@decide q d) (some v) none
 | _ => none
def xZ (P : Program) (ρ : Env) (U : St) : List ResultVar -> Option (List AV)
 | [] => some []
 | .tmp t :: rs => (xZ P ρ U rs).map fun vs => ρ.get t :: vs
 | .cell t ty :: rs => match Hl P ty (ρ.get t) U with
   | some v => (xZ P ρ U rs).map fun vs => v :: vs
   | none => none
abbrev qV := Nat -> List Nat -> Nat -> Ro -> Code -> T AV -> ES -> KC -> Bool
def Np (P : Program) (fn : Func) (k : KR) : KC := fun ex ρ e => match ex with
 | .normal | .ret => match xZ P (ee ρ) (bD e) fn.results.toList with
   | some vs => k (.ret (sf vs)) e
   | none => false
 | .panic x => k (.panic x) e
 | .exit _ => false
def D5 (ft : TypeId) (a : Nat) (k : KR) : KR
 | .ret v, e => match (bD e).box a, (bD e).box (a + 1), (bD e).box (a + 2) with
   | some [_], some [_], some [_] => v.scalar && k (.ret (.aQ [v, .int .i64 0, .bool true])) (((e.set a (.box [v])).set (a + 1) (.box [.int .i64 0])).set (a + 2) (.box [.bool true]))
   | _, _, _ => false
 | .panic x, e => match x, (bD e).box a, (bD e).box (a + 1), (bD e).box (a + 2) with
   | .iface t (.agg [.int .i64 at_]), some [_], some [_], some [_] => Nat.beq t ft && k (.ret (.aQ [.a7, .int .i64 at_, .bool false])) ((((e.new (.box [.int .i64 at_])).set a (.box [.a7])).set (a + 1) (.box [.int .i64 at_])).set (a + 2) (.box [.bool false]))
   | _, _, _, _ => false
def BQ (V : gh) (ev : qV) : pJ := fun f args e k =>
 match V.sm f args with
 | some x => k (.ret x) e
 | none => match V.QP f args e with
   | some (x, e') => k (.ret x) e'
   | none => match V.C.P.funcs[f]? with
     | some fn => match fn.body with
       | some c => Nat.ble args.length fn.ntmps && ev fn.ntmps (V.mu f) f .fn c (T.F3 args 0 .e) e (Np V.C.P fn k)
       | none => false
     | none => false
def Wg (e : ES) : ES := ((e.new (.box [.a7])).new (.box [.int .i64 0])).new (.box [.bool false])
def pL (V : gh) (ev : qV) : pJ := fun f args e k =>
 cond (V.tr f) (match args with
  | [_, .func (.func g) first cap] => dB V.C.P g && BQ V ev g (first ++ cap) (Wg e) (D5 V.ft e.n k)
  | _ => false) (BQ V ev f args e k)
def endRound (o : Nat) (k : KR) : KC := fun ex _ e => match (bD e).loop o with
 | some L => match ex with
   | .normal => k (.ret (.bool true)) (e.set o (.loop { L with state := .ready, eJ := none }))
   | .ret => k (.ret (.bool false)) (e.set o (.loop { L with state := .done, eJ := some .ret }))
   | .exit id => k (.ret (.bool false)) (e.set o (.loop { L with state := .done, eJ := some (.exit id) }))
   | .panic _ => false
 | none => false
def isReady : LoopState -> Bool
 | .ready => true
 | _ => false
def Jg : LoopState -> Bool
 | .busy => true
 | _ => false
def oQ (f : Nat -> AV) : Nat -> T AV -> T AV
 | 0, t => t
 | n + 1, t => oQ f n (t.set n (some (f n)))
def tf (V : gh) (ev : qV) : pJ := fun o args e k =>
 match (bD e).loop o with
 | some L => Nat.beq args.length L.params.size && L.params.toList.all (fun t => Nat.blt t L.nt) &&
   ev L.nt (V.mu L.tag) L.tag (.round o) L.assign (oQ (tY L.ρ L.params.toList args) L.nt .e) e (fun ex ρ e => match ex with
    | .normal => match (bD e).loop o with
      | some L' => isReady L'.state && ev L.nt (V.mu L.tag) L.tag (.round o) L.body ρ (e.set o (.loop { L' with state := .busy })) (endRound o k)
      | none => false
    | _ => false)
 | none => false
def CA (o : Nat) (ρ : T AV) (k : KC) : KR
 | .ret _, e => match (bD e).loop o with
   | some L => !Jg L.state && (match L.eJ with
     | none => k .normal ρ (e.del o)
     | some .ret => k .ret ρ (e.del o)
     | some (.exit id) => k (.exit id) ρ (e.del o)
     | _ => false)
   | none => false
 | .panic x, e => k (.panic x) .e e
def NW (V : gh) (ops : Array Oper) (B : List Nat) (I : kY) (ρ : T AV) (e : ES) (k : T AV -> ES -> Bool) : Bool := match (ee ρ).get I.m with
 | .mp id => (match (bD e).mp id with | some ([], []) => true | _ => false) && (B.all (fun b => !Nat.beq b id) && k ρ (e.set id (.mp (mJ I.kk (kV V.C ops (ee ρ) I) ([], [])).1 (mJ I.kk (kV V.C ops (ee ρ) I) ([], [])).2)))
 | _ => false
def lj (V : gh) : Nat -> qV
 | 0 => fun _ _ _ _ _ _ _ _ => false
 | n + 1 => fun nt mu tag ro c ρ e k =>
   match c with
   | .skip => k .normal ρ e
   | .exit id => k (.exit id) ρ e
   | .ret => k .ret ρ e
   | .seq a b => lj V n nt mu tag ro a ρ e fun ex ρ e => match ex with
     | .normal => lj V n nt mu tag ro b ρ e k
     | ex => k ex ρ e
   | .cond x a b => match (ee ρ).ev V.C x with
     | .bool true => lj V n nt mu tag ro a ρ e k
     | .bool false => lj V n nt mu tag ro b ρ e k
     | _ => false
   | .block id a => lj V n nt mu tag ro a ρ e fun ex ρ e => match ex with
     | .exit xg => cond (Nat.beq xg id) (k .normal ρ e) (k (.exit xg) ρ e)
     | ex => k ex ρ e
   | .loop a => lj V n nt mu tag ro a ρ e fun ex ρ e => match ex with
     | .normal => lj V n nt mu tag ro (.loop a) ρ e k
     | ex => k ex ρ e
   | .region _ ops false => kx nt ops && yw V (pL V (lj V n)) (tf V (lj V n)) mu ops ops.toList ρ e (fun ρ e => k .normal ρ e) (fun x e => k (.panic x) .e e)
   | .region id ops true => match V.ins tag id with
     | none => kx nt ops && (gO ops (vA V ops ops.size (Array.replicate ops.size false)) (Array.replicate ops.size false) && ((vA V ops ops.size (Array.replicate ops.size false)).length == ops.size)) &&
     mF V (pL V (lj V n)) (tf V (lj V n)) mu ops (preB V mu e ops.toList ρ []) e (vA V ops ops.size (Array.replicate ops.size false)) ρ e (fun ρ e => k .normal ρ e) (fun x e => k (.panic x) .e e)
     | some (rows, cY, I, post) => kx nt ops && (xU V.C.P ops rows cY I post && mF V (pL V (lj V n)) (tf V (lj V n)) mu ops (preB V mu e ops.toList ρ []) e cY ρ e (fun dv e' => NW V ops (preB V mu e ops.toList ρ []) I dv e' (fun dv e' => mF V (pL V (lj V n)) (tf V (lj V n)) mu ops (preB V mu e ops.toList ρ []) e post dv e' (fun ρ e => k .normal ρ e) (fun x e => k (.panic x) .e e))) (fun x e => k (.panic x) .e e))
   | .rangeFunc f ps assign body => match ro, (ee ρ).ev V.C f with
     | .fn, .func (.func hY) first cap => dB V.C.P hY && pL V (lj V n) hY (first ++ [.pj e.n] ++ cap) (e.new (.loop ⟨(ee ρ).get, nt, ps, assign, body, .ready, none, tag⟩)) (CA e.n ρ k)
     | _, _ => false
   | _ => false
def kR (k : KR) : cB -> St -> Prop := fun r U => ∃ e, U = bD e /\ k r e = true
def kA (k : AV -> ES -> Bool) : AV -> St -> Prop := fun v U => ∃ e, U = bD e /\ k v e = true
def kE (k : T AV -> ES -> Bool) : Env -> St -> Prop := fun ρ U => ∃ t e, ρ = ee t /\ U = bD e /\ k t e = true
def kC (k : KC) : Ex -> Env -> St -> Prop
 | .panic x, _, U => ∃ e, U = bD e /\ k (.panic x) .e e = true
 | ex, ρ, U => ∃ t e, ρ = ee t /\ U = bD e /\ k ex t e = true
def D6 (ft : TypeId) (a b c : Nat) (R : cB -> St -> Prop) : cB -> St -> Prop
 | .ret v, U => v.scalar = true /\ (∃ x, U.box a = some [x]) /\ (∃ x, U.box b = some [x]) /\ (∃ x, U.box c = some [x]) /\ R (.ret (.aQ [v, .int .i64 0, .bool true])) (((U.bT a [v]).bT b [.int .i64 0]).bT c [.bool true])
 | .panic x, U => ∃ at_, x = .iface ft (.agg [.int .i64 at_]) /\ (∃ x, U.box a = some [x]) /\ (∃ x, U.box b = some [x]) /\ (∃ x, U.box c = some [x]) /\
    ∀ q, U.cQ q -> R (.ret (.aQ [.a7, .int .i64 at_, .bool false])) ((((U.new q (.box [.int .i64 at_])).bT a [.a7]).bT b [.int .i64 at_]).bT c [.bool false])
def Ff (C : cu) (ft : TypeId) (f : Nat) : Prop := ∀ r g first cap U R, dB C.P g = true ->
 (∀ a b c, U.cQ a -> (U.new a (.box [.a7])).cQ b -> ((U.new a (.box [.a7])).new b (.box [.int .i64 0])).cQ c ->
   af C g (first ++ cap) (((U.new a (.box [.a7])).new b (.box [.int .i64 0])).new c (.box [.bool false])) (D6 ft a b c R)) -> af C f [r, .func (.func g) first cap] U R
structure oy (V : gh) : Prop where
 sm : ∀ f args x, V.sm f args = some x -> Pure V.C f args x
 QP : ∀ f args e x e', V.QP f args e = some (x, e') -> ∀ R, R (.ret x) (bD e') -> af V.C f args (bD e) R
 tr : ∀ f, V.tr f = true -> Ff V.C V.ft f
 mixed : V.C.P.follows .mixedOrders = true
def uK (V : gh) (cf : pJ) : Prop := ∀ f args e k, cf f args e k = true -> af V.C f args (bD e) (kR k)
def we (V : gh) (cy : pJ) : Prop := ∀ o args e k, cy o args e k = true -> jK V.C o args (bD e) (kR k)
def sr (V : gh) (ev : qV) : Prop := ∀ nt mu tag ro c ρ e k, ev nt mu tag ro c ρ e k = true -> bz V.C nt ro c (kC k) (ee ρ) (bD e)
theorem p5 {e : ES} {b : Nat} (h : (bD e).cQ b) : b = e.n := h.2 _ rfl
theorem Ih (e : ES) (d : Option Nat) : (e.pn d).n = e.n := by cases d <;> rfl
section
variable {V : gh} {cf cy : pJ}
theorem x6 (hf : uK V cf) (hy : we V cy) {e : ES} {k kp : AV -> ES -> Bool} : ∀ (r : av), wC cf cy e r k kp = true -> r.wp V.C (bD e) (kA k) (kA kp)
 | .val v, h => ⟨e, rfl, h⟩
 | .jD v b x, h => ⟨e.set b x, (kF e b x).symm, h⟩
 | .new kd del x, h => fun b hb => by
   rw [<- MF] at hb ⊢
   have := p5 hb
   rw [Ih] at this
   subst this
   exact ⟨(e.pn del).new x, by rw [oP, Ih], h⟩
 | .ji b l, h => fun p hp => by
   simp only [wC, dJ] at h
   exact ⟨e.set b p.2, (kF e b p.2).symm, h p hp⟩
 | .enter f args, h => (hf f args e _ h).mono fun r U hr => by cases r <;> exact hr
 | .yield o args, h => (hy o args e _ h).mono fun r U hr => by cases r <;> exact hr
 | .panic v, h => ⟨e, rfl, h⟩
 | @av.cond p d r, h => by
   simp only [wC, bN] at h
   exact ⟨@of_decide_eq_true p d h.1, x6 hf hy r h.2⟩
 | .bad, h => by cases h
theorem Rz {ops : Array Oper} {B : List Nat} {I : kY} {k : T AV -> ES -> Bool} (ρ : T AV) (e : ES) (h : NW V ops B I ρ e k = true) : G5 V.C ops B I (kE k) (ee ρ) (bD e) := by
 unfold NW at h
 split at h
 · rename_i id hid
   simp only [bN, dJ, Bool.not_eq_true'] at h
   obtain ⟨h1, h2, h3⟩ := h
   split at h1
   · rename_i CX
     refine ⟨id, hid, CX, fun hm => ?_, ρ, _, rfl, (kF e id _).symm, h3⟩
     have := h2 id hm
     simp at this
   · cases h1
 · cases h
theorem xH (hf : uK V cf) (hy : we V cy) {mu : List Nat} {ops : Array Oper} {k : T AV -> ES -> Bool} {kp : AV -> ES -> Bool} : ∀ (l : List Oper) (ρ : T AV) (e : ES), yw V cf cy mu ops l ρ e k kp = true ->
 mz V.C mu ops l (ee ρ) (bD e) (kE k) (kA kp)
 | [], ρ, e, h => ⟨ρ, e, rfl, rfl, h⟩
 | o :: rest, ρ, e, h => by
   simp only [yw] at h
   simp only [mz]
   split at h
   · rename_i hg
     rw [hg]
     refine ⟨fun _ => ?_, fun h => (by cases h)⟩
     refine av.wp_mono ?_ _ (x6 hf hy _ h)
     rintro v U ⟨e', rfl, hk⟩
     have := xH hf hy rest _ e' hk
     rw [nz] at this
     exact this
   · rename_i hg
     rw [hg]
     refine ⟨fun h => (by cases h), fun _ => ?_⟩
     have := xH hf hy rest _ e h
     rw [nz] at this
     exact this
   · cases h
theorem M5 (hV : oy V) : ∀ (r : av) (v : AV), Gn V r = some v -> r.yv V.C v
 | .val u, v, h => by simp only [Gn, gr] at h; exact h
 | @av.cond p d r, v, h => by
   simp only [Gn] at h
   cases hd : @decide p d with
   | false => rw [hd] at h; cases h
   | true => rw [hd] at h; exact ⟨@of_decide_eq_true p d hd, M5 hV r v h⟩
 | .enter f args, v, h => hV.sm f args v h
 | .jD _ _ _, v, h => by cases h
 | .new _ _ _, v, h => by cases h
 | .ji _ _, v, h => by cases h
 | .yield _ _, v, h => by cases h
 | .panic _, v, h => by cases h
 | .bad, v, h => by cases h
theorem Ol {B : List Nat} {e0 e : ES} (h : HE B e0 e = true) : c8 B (bD e0) (bD e) := fun b hb => by
 unfold HE at h
 rw [dJ] at h
 exact Im (h b hb)
theorem GW {C : cu} {B : List Nat} {ρ : Env} {op : Op} (h : zT C B ρ op = true) : ∀ x ∈ op.operands.toList, ∀ b ∈ dM (ρ.ev C x), b ∈ B := fun x hx b hb => by
 unfold zT at h
 rw [dJ] at h
 have := h x hx
 rw [dJ] at this
 have := this b hb
 rw [List.any_eq_true] at this
 obtain ⟨c, hc, he⟩ := this
 rw [<- dZ he]; exact hc
theorem lF (hV : oy V) (hf : uK V cf) (hy : we V cy) {mu : List Nat} {ops : Array Oper} {B : List Nat} {e0 : ES} {k : T AV -> ES -> Bool} {kp : AV -> ES -> Bool} : ∀ (l : List (Bool × Nat)) (ρ : T AV) (e : ES), mF V cf cy mu ops B e0 l ρ e k kp = true ->
 ky V.C mu ops B (bD e0) (kE k) (kA kp) l (ee ρ) (bD e)
 | [], ρ, e, h => ⟨ρ, e, rfl, rfl, h⟩
 | (true, i) :: r, ρ, e, h => by
   simp only [mF] at h
   split at h
   · cases h
   · rename_i o ho
     split at h
     · rename_i hg
       simp only [bN, ja, Bool.not_eq_true'] at h
       obtain ⟨⟨h1, h2⟩, h3⟩ := h
       split at h3
       · rename_i v hv
         refine ⟨o, v, ho, .inl ⟨hg, h1, fun C7 => ?_, M5 hV _ _ hv⟩, ?_⟩
         · rcases h2 with h2 | h2
           · rw [C7] at h2; cases h2
           · exact GW h2
         · have := lF hV hf hy r _ e h3
           rw [nz] at this
           exact this
       · cases h3
     · rename_i hg
       refine ⟨o, .aQ [], ho, .inr ⟨hg, rfl⟩, ?_⟩
       have := lF hV hf hy r _ e h
       rw [nz] at this
       exact this
     · cases h
 | (false, i) :: r, ρ, e, h => by
   simp only [mF] at h
   simp only [ky, mf]
   split at h
   · cases h
   · rename_i o ho
     try rw [ho]
     try dsimp only
     split at h
     · rename_i hg
       rw [hg]
       refine ⟨fun _ => ?_, fun h => (by cases h)⟩
       refine av.wp_mono ?_ _ (x6 hf hy _ h)
       rintro v U ⟨e', rfl, hk⟩
       simp only [bN] at hk
       refine ⟨?_, ?_⟩
       · rw [ja] at hk
         rcases hk.1 with h | h
         · exact .inr (Ol h)
         · exact .inl h
       have := lF hV hf hy r _ e' hk.2
       rw [nz] at this
       exact this
     · rename_i hg
       rw [hg]
       refine ⟨fun h => (by cases h), fun _ => ?_⟩
       have := lF hV hf hy r _ e h
       rw [nz] at this
       exact this
     · cases h
theorem rz {C : cu} {mu : List Nat} {ops : Array Oper} {K K' : Env -> St -> Prop} {Kp yg : AV -> St -> Prop} (hk : ∀ ρ U, K ρ U -> K' ρ U) (hp : ∀ v U, Kp v U -> yg v U) : ∀ (l : List Oper) {ρ : Env} {U : St}, mz C mu ops l ρ U K Kp -> mz C mu ops l ρ U K' yg
 | [], _, _, h => hk _ _ h
 | o :: rest, ρ, U, h => by
   simp only [mz] at h ⊢
   have wpp : ∀ (r : av) {U : St} {X : AV -> St -> Prop}, r.wp C U X Kp -> r.wp C U X yg := fun r => by
    induction r with
    | val _ => exact fun h => h
    | jD _ _ _ => exact fun h => h
    | new _ _ _ => exact fun h => h
    | ji _ _ => exact fun h => h
    | enter f args => exact fun h => h.mono fun r U hr => by cases r <;> first | exact hr | exact hp _ _ hr
    | yield o args => exact fun h => h.mono fun r U hr => by cases r <;> first | exact hr | exact hp _ _ hr
    | panic v => exact fun h => hp _ _ h
    | cond p r ih => exact fun h => ⟨h.1, ih h.2⟩
    | bad => exact fun h => h
   cases hg : fV ops ρ o.guard <;> rw [hg] at h <;> simp only [ao] at h ⊢
   exact ⟨fun e => av.wp_mono (fun v U hv => rz hk hp rest hv) _ (wpp _ (h.1 e)), fun e => rz hk hp rest (h.2 e)⟩
theorem N5 {P : Program} {ty : TypeId} {p v : AV} {U : St} (h : Hl P ty p U = some v) {k : AV -> Prop} (hk : k v) : wx P ty p U k := by
 unfold Hl at h
 unfold wx
 split at h
 · rename_i u hu
   cases h
   first | exact hk | (rw [hu]; exact hk)
 · rename_i q d u hu
   cases hd : @decide q d with
   | false => rw [hd] at h; cases h
   | true =>
     rw [hd] at h; cases h
     first | exact ⟨@of_decide_eq_true q d hd, hk⟩ | (rw [hu]; exact ⟨@of_decide_eq_true q d hd, hk⟩)
 · cases h
theorem wB {P : Program} {ρ : Env} {U : St} : ∀ (rs : List ResultVar) (vs : List AV) (k : List AV -> Prop), xZ P ρ U rs = some vs -> k vs -> sb P ρ U rs k
 | [], vs, k, h, hk => by simp only [xZ, gr] at h; subst h; exact hk
 | .tmp t :: rs, vs, k, h, hk => by
   simp only [xZ, mA] at h
   obtain ⟨us, hu, rfl⟩ := h
   exact wB rs us _ hu hk
 | .cell t ty :: rs, vs, k, h, hk => by
   simp only [xZ] at h
   split at h
   · rename_i v hv
     simp only [mA] at h
     obtain ⟨us, hu, rfl⟩ := h
     exact N5 hv (wB rs us _ hu hk)
   · cases h
theorem Cs (hV : oy V) {ev : qV} (he : sr V ev) : uK V (BQ V ev) := fun f args e k h => by
 simp only [BQ] at h
 split at h
 · rename_i x hx
   exact hV.sm f args x hx _ _ ⟨e, rfl, h⟩
 · split at h
   · rename_i x e' hx
     exact hV.QP f args e x e' hx _ ⟨e', rfl, h⟩
   · split at h
     · rename_i fn hfn
       split at h
       · rename_i c hc
         simp only [bN] at h
         refine af.F4 hfn hc (Nat.le_of_ble_eq_true h.1) ?_
         have := he _ _ _ _ _ _ _ _ h.2
         rw [GD] at this
         refine this.mono ?_
         intro ex ρ U hc
         cases ex with
         | normal =>
           obtain ⟨t, e', rfl, rfl, hk⟩ := hc
           simp only [Np] at hk
           split at hk
           · rename_i vs vp
             exact wB _ vs _ vp ⟨_, _, lA.refl _ _, e', rfl, hk⟩
           · cases hk
         | ret =>
           obtain ⟨t, e', rfl, rfl, hk⟩ := hc
           simp only [Np] at hk
           split at hk
           · rename_i vs vp
             exact wB _ vs _ vp ⟨_, _, lA.refl _ _, e', rfl, hk⟩
           · cases hk
         | panic x =>
           obtain ⟨e', rfl, hk⟩ := hc
           exact ⟨e', rfl, hk⟩
         | exit id =>
           obtain ⟨t, e', rfl, rfl, hk⟩ := hc
           cases hk
       · cases h
     · cases h
theorem kX (e : ES) (b : Nat) (l : List AV) : (bD e).bT b l = bD (e.set b (.box l)) := (kF e b _).symm
theorem Cu (hV : oy V) {ev : qV} (he : sr V ev) : uK V (pL V ev) := fun f args e k h => by
 simp only [pL] at h
 cases IX : V.tr f with
 | false => rw [IX] at h; exact Cs hV he f args e k h
 | true =>
   rw [IX] at h
   simp only [cond_true] at h
   split at h
   · rename_i r g first cap
     rw [bN] at h
     obtain ⟨qq, h⟩ := h
     refine hV.tr f IX r g first cap _ _ qq fun a b c ha hb hc => ?_
     have ea := p5 ha
     subst ea
     rw [<- oP] at hb hc ⊢
     have eb := p5 hb
     subst eb
     rw [<- oP] at hc ⊢
     have ec := p5 hc
     subst ec
     rw [<- oP]
     refine (Cs hV he g _ _ _ h).mono ?_
     rintro r U ⟨e', rfl, hk⟩
     cases r with
     | ret v =>
       simp only [D5] at hk
       split at hk
       · rename_i x y z h1 h2 h3
         rw [bN] at hk
         refine ⟨hk.1, ⟨x, h1⟩, ⟨y, h2⟩, ⟨z, h3⟩, ?_⟩
         rw [kX, kX, kX]
         exact ⟨_, rfl, hk.2⟩
       · cases hk
     | panic x =>
       simp only [D5] at hk
       split at hk
       · rename_i t at_ x y z h1 h2 h3
         simp only [bN] at hk
         have ht := dZ hk.1
         subst ht
         refine ⟨at_, rfl, ⟨x, h1⟩, ⟨y, h2⟩, ⟨z, h3⟩, fun q hq => ?_⟩
         have eq := p5 hq
         subst eq
         rw [<- oP, kX, kX, kX]
         exact ⟨_, rfl, hk.2⟩
       · cases hk
   · cases h
theorem qQ (f : Nat -> AV) : ∀ (n : Nat) (t : T AV) (i : Nat), (oQ f n t).get i = if i < n then some (f i) else t.get i
 | 0, t, i => by simp [oQ]
 | n + 1, t, i => by
   simp only [oQ]
   rw [qQ f n, T.p7]
   by_cases h : i < n
   · rw [if_pos h, if_pos (by omega)]
   · rw [if_neg h]
     by_cases e : i = n
     · subst e; simp
     · rw [if_neg e, if_neg (by omega)]
end
end Go.Rip
namespace Go.Rip
open Go.RowKit
theorem bz.env {C : cu} {nt : Nat} {ro : Ro} {c : Code} {Q : Ex -> Env -> St -> Prop} {ρ dv : Env} {U : St} (h1 : ∀ t, t < nt -> dv.get t = ρ.get t) (h2 : ∀ t, nt <= t -> dv.get t = .aQ []) (h : bz C nt ro c Q dv U) : bz C nt ro c Q ρ U := by
 intro g w a fr k1 k2 k3 k4 k5
 refine h g w a fr k1 k2 (fun t => ?_) k4 k5
 by_cases ht : t < nt
 · rw [h1 t ht]; exact k3 t
 · rw [h2 t (by omega)]
   have : a.tmps.getD t undef = undef := by
    rw [Array.getD_eq_getD_getElem?, ub (by omega)]; rfl
   rw [this]; exact rE
section
variable {V : gh}
theorem M4 (hV : oy V) {ev : qV} (he : sr V ev) : we V (tf V ev) := fun o args e k h => by
 simp only [tf] at h
 split at h
 · rename_i L hL
   simp only [bN] at h
   obtain ⟨⟨h1, h2⟩, h3⟩ := h
   refine jK.DC hL (dZ h1) (fun t ht => ?_) ?_
   · rw [dJ] at h2
     have := h2 t ht
     simpa [Nat.blt_eq] using this
   · have h4 := he _ _ _ _ _ _ _ _ h3
     refine bz.env (dv := ee (oQ (tY L.ρ L.params.toList args) L.nt .e)) (fun t ht => ?_) (fun t ht => ?_) ?_
     · simp only [ee]; rw [qQ, if_pos ht]; rfl
     · simp only [ee]; rw [qQ, if_neg (by omega)]; rfl
     · refine h4.mono ?_
       intro ex ρ U hc
       cases ex with
       | normal =>
         obtain ⟨t, e', rfl, rfl, hk⟩ := hc
         dsimp only at hk
         split at hk
         · rename_i L' yD
           simp only [bN] at hk
           refine ⟨L', yD, ?_, ?_⟩
           · have := hk.1
             cases hs : L'.state <;> rw [hs] at this <;> first
              | rfl
              | (simp [isReady] at this)
           · have h5 := he _ _ _ _ _ _ _ _ hk.2
             rw [kF] at h5
             refine h5.mono ?_
             intro ex ρ U wY
             cases ex with
             | normal =>
               obtain ⟨t', e2, rfl, rfl, fm⟩ := wY
               simp only [endRound] at fm
               split at fm
               · rename_i L2 Iz; exact ⟨L2, Iz, _, (kF _ _ _).symm, fm⟩
               · cases fm
             | ret =>
               obtain ⟨t', e2, rfl, rfl, fm⟩ := wY
               simp only [endRound] at fm
               split at fm
               · rename_i L2 Iz; exact ⟨L2, Iz, _, (kF _ _ _).symm, fm⟩
               · cases fm
             | exit id =>
               obtain ⟨t', e2, rfl, rfl, fm⟩ := wY
               simp only [endRound] at fm
               split at fm
               · rename_i L2 Iz; exact ⟨L2, Iz, _, (kF _ _ _).symm, fm⟩
               · cases fm
             | panic x =>
               obtain ⟨e2, rfl, fm⟩ := wY
               simp only [endRound] at fm
               split at fm <;> cases fm
         · cases hk
       | exit id => obtain ⟨t, e', rfl, rfl, hk⟩ := hc; cases hk
       | ret => obtain ⟨t, e', rfl, rfl, hk⟩ := hc; cases hk
       | panic x => obtain ⟨e', rfl, hk⟩ := hc; cases hk
 · cases h
theorem Nv (hV : oy V) (n : Nat) (Zq : ∀ m, m < n -> sr V (lj V m)) : sr V (lj V n) := by
 cases n with
 | zero => intro nt mu tag ro c ρ e k h; cases h
 | succ n =>
   intro nt mu tag ro c ρ e k h
   have ih := Zq n (Nat.lt_succ_self n)
   have hf := Cu hV ih
   have hy := M4 hV ih
   by_cases hl : ∃ a, c = .loop a
   · obtain ⟨a, rfl⟩ := hl
     refine bz.loop (fun j ρ U => j <= n + 1 /\ ∃ t e, ρ = ee t /\ U = bD e /\ lj V j nt mu tag ro (.loop a) t e k = true) (n := n + 1) ⟨df _, ρ, e, rfl, rfl, h⟩ ?_
     rintro j dv ae ⟨hj, t, e', rfl, rfl, hk⟩
     cases j with
     | zero => cases hk
     | succ j =>
       simp only [lj] at hk
       refine (Zq j (by omega) _ _ _ _ _ _ _ _ hk).mono ?_
       intro ex pk bX hc
       cases ex with
       | normal =>
         obtain ⟨t2, e2, rfl, rfl, fm⟩ := hc
         exact ⟨j, Nat.lt_succ_self j, by omega, t2, e2, rfl, rfl, fm⟩
       | exit id => exact hc
       | ret => exact hc
       | panic x => exact hc
   simp only [lj] at h
   split at h
   · exact bz.skip ⟨ρ, e, rfl, rfl, h⟩
   · exact bz.exit ⟨ρ, e, rfl, rfl, h⟩
   · exact bz.ret ⟨ρ, e, rfl, rfl, h⟩
   · rename_i a b
     refine bz.seq ((ih _ _ _ _ _ _ _ _ h).mono ?_)
     intro ex dv ae hc
     cases ex with
     | normal =>
       obtain ⟨t, e', rfl, rfl, hk⟩ := hc
       exact ih _ _ _ _ _ _ _ _ hk
     | exit id => exact hc
     | ret => exact hc
     | panic x => exact hc
   · rename_i x a b
     split at h
     · rename_i hc; exact bz.XA hc (ih _ _ _ _ _ _ _ _ h)
     · rename_i hc; exact bz.Xz hc (ih _ _ _ _ _ _ _ _ h)
     · cases h
   · rename_i id a
     refine bz.block ((ih _ _ _ _ _ _ _ _ h).mono ?_)
     intro ex dv ae hc
     cases ex with
     | normal => exact hc
     | exit xg =>
       obtain ⟨t, e', rfl, rfl, hk⟩ := hc
       simp only [uU]
       dsimp only at hk
       split
       · rename_i hid
         subst hid
         rw [Nat.beq_refl, cond_true] at hk
         exact ⟨t, e', rfl, rfl, hk⟩
       · rename_i hid
         rw [vB hid, cond_false] at hk
         exact ⟨t, e', rfl, rfl, hk⟩
     | ret => exact hc
     | panic x => exact hc
   · rename_i a
     exact (hl ⟨a, rfl⟩).elim
   · rename_i id ops
     simp only [bN] at h
     refine bz.region mu h.1 (rz ?_ ?_ _ (xH hf hy _ _ _ h.2))
     · rintro dv ae ⟨t, e', rfl, rfl, hk⟩
       exact ⟨t, e', rfl, rfl, hk⟩
     · rintro v ae ⟨e', rfl, hk⟩ dv
       exact ⟨e', rfl, hk⟩
   · rename_i id ops
     split at h
     · simp only [bN] at h
       refine bz.uf mu _ _ hV.mixed h.1.1 (by rw [bN]; exact h.1.2) (ig ?_ ?_ _ (lF hV hf hy _ _ _ h.2))
       · rintro dv ae ⟨t, e', rfl, rfl, hk⟩
         exact ⟨t, e', rfl, rfl, hk⟩
       · rintro v ae ⟨e', rfl, hk⟩ dv
         exact ⟨e', rfl, hk⟩
     · rename_i rows cY I post _
       simp only [bN] at h
       have Y0 : ∀ v U, kA (fun x e => k (.panic x) .e e) v U -> uM (kC k) v U := by
        rintro v ae ⟨e', rfl, hk⟩ dv
        exact ⟨e', rfl, hk⟩
       refine bz.JW (B := preB V mu e ops.toList ρ []) (mu := mu) cY I post hV.mixed h.1 (EX h.2.1) (ig ?_ Y0 _ (lF hV hf hy _ _ _ h.2.2))
       rintro dv ae ⟨t, e', rfl, rfl, hk⟩
       obtain ⟨xg, q1, q2, q3, t2, e2, q4, q5, q6⟩ := Rz t e' hk
       refine ⟨xg, q1, q2, q3, ?_⟩
       have key := ig (K' := KQ (kC k)) (by
        rintro pk bX ⟨t3, e3, rfl, rfl, hk⟩
        exact ⟨t3, e3, rfl, rfl, hk⟩) Y0 _ (lF hV hf hy _ _ _ q6)
       rw [<- q4, <- q5] at key
       exact key
   · rename_i f ps assign body
     split at h
     · rename_i hY first cap hfn
       simp only [bN] at h
       refine bz.rangeFunc tag hfn h.1 fun o ho => ?_
       have := p5 ho
       subst this
       rw [<- oP]
       refine (hf _ _ _ _ h.2).mono ?_
       rintro r U ⟨e', rfl, hk⟩
       cases r with
       | ret v =>
         simp only [CA] at hk
         split at hk
         · rename_i L hL
           simp only [bN, Bool.not_eq_true'] at hk
           refine ⟨L, hL, fun hb => ?_, ?_⟩
           · rw [hb] at hk; simp [Jg] at hk
           · have fm := hk.2
             rw [<- x8]
             split at fm
             · rename_i hp; try rw [hp]
               exact ⟨_, _, rfl, rfl, fm⟩
             · rename_i hp; try rw [hp]
               exact ⟨_, _, rfl, rfl, fm⟩
             · rename_i id hp; try rw [hp]
               exact ⟨_, _, rfl, rfl, fm⟩
             · cases fm
         · cases hk
       | panic x => exact ⟨e', rfl, hk⟩
     · cases h
   · cases h
theorem Uc (hV : oy V) (n : Nat) : sr V (lj V n) := by
 induction n using Nat.strongRecOn with
 | _ n ih => exact Nv hV n ih
theorem Ud {V : gh} (hV : oy V) (n f : Nat) (args : List AV) (e : ES) (k : KR) (h : pL V (lj V n) f args e k = true) : af V.C f args (bD e) (kR k) := Cu hV (Uc hV n) f args e k h
end
end Go.Rip
namespace Go.Rip
open Go.RowKit
mutual
def closed : AV -> Bool
 | .box _ _ | .ms _ _ _ _ _ | .mp _ | .pj _ | .it _ => false
 | .vec _ (.own _) _ => false
 | .vec _ _ l => bU l
 | .cj l => bU l
 | .eI ks vs => bU ks && bU vs
 | .func _ a b => bU a && bU b
 | .iface _ v => closed v
 | .agg l => bU l
 | .aQ l => bU l
 | _ => true
def bU : List AV -> Bool
 | [] => true
 | x :: xs => closed x && bU xs
end
mutual
theorem ay.closed {g g' : Gh} (hi : ∀ b o x, g.bM b o = some x -> g'.bM b o = some x) (hm : ∀ b x, g.bH b = some x -> g'.bH b = some x) : ∀ (x : AV) (v : Value), closed x = true -> ay g x v -> ay g' x v
 | .bool _, _, _, hr => hr
 | .int _ _, _, _, hr => hr
 | .str _, _, _, hr => hr
 | .a7, _, _, hr => hr
 | .al, _, _, hr => hr
 | .jT, _, _, hr => hr
 | .cZ, _, _, hr => hr
 | .cN, _, _, hr => hr
 | .box _ _, _, hc, _ => by cases hc
 | .ms _ _ _ _ _, _, hc, _ => by cases hc
 | .mp _, _, hc, _ => by cases hc
 | .pj _, _, hc, _ => by cases hc
 | .it _, _, hc, _ => by cases hc
 | .cj l, _, hc, hr => by
   simp only [ay] at hr ⊢
   obtain ⟨aH, off, vs, hv, h1, h2⟩ := hr
   exact ⟨aH, off, vs, hv, fun i u hu => hi _ _ _ (h1 i u hu), aD.closed hi hm l vs hc h2⟩
 | .vec n cap l, _, hc, hr => by
   simp only [ay] at hr ⊢
   obtain ⟨aH, off, c, vs, hv, h1, h2, h3, h4, h5⟩ := hr
   cases cap with
   | own τ => cases hc
   | full => exact ⟨aH, off, c, vs, hv, h1, h2, h3, fun i u hu => hi _ _ _ (h4 i u hu), aD.closed hi hm l vs hc h5⟩
   | iW => exact ⟨aH, off, c, vs, hv, h1, h2, trivial, fun i u hu => hi _ _ _ (h4 i u hu), aD.closed hi hm l vs hc h5⟩
 | .eI ks vs, _, hc, hr => by
   simp only [ay] at hr ⊢
   simp only [Go.Rip.closed, bN] at hc
   obtain ⟨r, es, c, l, hv, he, hp, hs, h1, h2⟩ := hr
   exact ⟨r, es, c, l, hv, hm _ _ he, hp, hs, aD.closed hi hm ks _ hc.1 h1, aD.closed hi hm vs _ hc.2 h2⟩
 | .func fn first captured, _, hc, hr => by
   simp only [ay] at hr ⊢
   simp only [Go.Rip.closed, bN] at hc
   obtain ⟨fs, cs, hv, h1, h2⟩ := hr
   exact ⟨fs, cs, hv, aD.closed hi hm first _ hc.1 h1, aD.closed hi hm captured _ hc.2 h2⟩
 | .iface t x, _, hc, hr => by
   simp only [ay] at hr ⊢
   obtain ⟨u, hv, h1⟩ := hr
   exact ⟨u, hv, ay.closed hi hm x _ hc h1⟩
 | .agg l, _, hc, hr => by
   simp only [ay] at hr ⊢
   obtain ⟨vs, hv, h0, h1⟩ := hr
   exact ⟨vs, hv, h0, aD.closed hi hm l _ hc h1⟩
 | .aQ l, _, hc, hr => by
   simp only [ay] at hr ⊢
   obtain ⟨vs, hv, h1⟩ := hr
   exact ⟨vs, hv, aD.closed hi hm l _ hc h1⟩
 | .any, _, _, _ => by simp only [ay]
theorem aD.closed {g g' : Gh} (hi : ∀ b o x, g.bM b o = some x -> g'.bM b o = some x) (hm : ∀ b x, g.bH b = some x -> g'.bH b = some x) : ∀ (l : List AV) (vs : List Value), bU l = true -> aD g l vs -> aD g' l vs
 | [], _, _, hr => by simpa only [aD] using hr
 | x :: xs, _, hc, hr => by
   simp only [aD] at hr ⊢
   simp only [bU, bN] at hc
   obtain ⟨u, us, hv, h1, h2⟩ := hr
   exact ⟨u, us, hv, ay.closed hi hm x _ hc.1 h1, aD.closed hi hm xs _ hc.2 h2⟩
end
def resolve : Nat -> St -> AV -> AV
 | 0, _, _ => .any
 | n + 1, U, x => match x with
   | .box b off => match U.box b with
     | some l => .cj ((l.map (resolve n U)).drop off)
     | none => .any
   | .ms b off k _ _ => match U.box b with
     | some l => .vec k .iW ((l.map (resolve n U)).drop off)
     | none => .any
   | .mp m => match U.mp m with
     | some (ks, vs) => .eI ks (vs.map (resolve n U))
     | none => .any
   | .vec k .full l => .vec k .full (l.map (resolve n U))
   | .vec k _ l => .vec k .iW (l.map (resolve n U))
   | .cj l => .cj (l.map (resolve n U))
   | .eI ks vs => .eI ks (vs.map (resolve n U))
   | .func f a b => .func f (a.map (resolve n U)) (b.map (resolve n U))
   | .iface t v => .iface t (resolve n U v)
   | .agg l => .agg (l.map (resolve n U))
   | .aQ l => .aQ (l.map (resolve n U))
   | .pj _ | .it _ => .any
   | x => x
noncomputable def Gh.all (g : Gh) (w : World) : Gh :=
 { g with
  bM := fun q o => if g.base <= q then (match w.cell? ⟨q, o, none⟩ with | some u => if u.oneCell' = true then some u else none | none => none) else g.bM q o
  bH := fun q => if g.base <= q then (match w.heap[q]? with | some (.map es c) => if h : (open Classical in decide (iv es c)) = true then some (es, c) else none | _ => none) else g.bH q }
theorem Fg {g : Gh} {w : World} {q o : Nat} {u : Value} (hq : g.base <= q) (hc : w.cell? ⟨q, o, none⟩ = some u) (h1 : u.oneCell' = true) : (g.all w).bM q o = some u := by
 show (if _ then _ else _) = _
 rw [if_pos hq, hc]; simp [h1]
theorem Ce {g : Gh} {w : World} {q : Nat} {es : Array MapEntry} {c : Nat} (hq : g.base <= q) (hc : w.heap[q]? = some (.map es c)) (h1 : iv es c) : (g.all w).bH q = some (es, c) := by
 show (if _ then _ else _) = _
 rw [if_pos hq, hc]; simp [h1]
theorem aY.yW {g : Gh} {U : St} {w : World} (h : aY g U w) : Gh.Le g (g.all w) := by
 refine ⟨rfl, rfl, fun _ _ h => h, fun b o x hx => ?_, fun b x hx => ?_, fun _ h => h, fun b o hb => ?_, fun b hb => ?_⟩
 · by_cases hq : g.base <= b
   · exact Fg hq (h.bM _ _ _ hx).1 (h.bM _ _ _ hx).2
   · show (if _ then _ else _) = _
     rw [if_neg hq]; exact hx
 · by_cases hq : g.base <= b
   · exact Ce hq (h.bH _ _ _ hx).1 (h.bH _ _ _ hx).2
   · show (if _ then _ else _) = _
     rw [if_neg hq]; exact hx
 · show (if _ then _ else _) = _
   rw [if_neg (by omega)]
 · show (if _ then _ else _) = _
   rw [if_neg (by omega)]
theorem tj {g : Gh} {U : St} {w : World} (h : aY g U w) (q o : Nat) (u : Value) (hu : (g.all w).bM q o = some u) : w.cell? ⟨q, o, none⟩ = some u /\ u.oneCell' = true := by
 have hu : (if g.base <= q then (match w.cell? ⟨q, o, none⟩ with | some u => if u.oneCell' = true then some u else none | none => none) else g.bM q o) = some u := hu
 split at hu
 · split at hu
   · rename_i x hx
     split at hu
     · cases hu; exact ⟨hx, by assumption⟩
     · cases hu
   · cases hu
 · exact h.bM _ _ _ hu
theorem rO {g : Gh} {U : St} {w : World} (h : aY g U w) (q : Nat) (es : Array MapEntry) (c : Nat) (hu : (g.all w).bH q = some (es, c)) : w.heap[q]? = some (.map es c) /\ iv es c := by
 have hu : (if g.base <= q then (match w.heap[q]? with | some (.map es c) => if h : (open Classical in decide (iv es c)) = true then some (es, c) else none | _ => none) else g.bH q) = some (es, c) := hu
 split at hu
 · split at hu
   · rename_i sy c' hx
     split at hu
     · rename_i hb
       cases hu; exact ⟨hx, by simpa using hb⟩
     · cases hu
   · cases hu
 · exact h.bH _ _ _ hu
theorem xX {g g' : Gh} {f : AV -> AV} : ∀ {l : List AV} {vs : List Value}, (∀ x v, x ∈ l -> ay g x v -> ay g' (f x) v) -> aD g l vs -> aD g' (l.map f) vs
 | [], _, _, h => by simpa only [aD, gP] using h
 | x :: xs, _, hf, h => by
   simp only [aD, dy] at h ⊢
   obtain ⟨u, us, hv, h1, h2⟩ := h
   exact ⟨u, us, hv, hf x u (by simp) h1, xX (fun y v hy => hf y v (by simp [hy])) h2⟩
theorem xq {g : Gh} {U : St} {w : World} (h : aY g U w) : ∀ (n : Nat) (x : AV) (v : Value), ay g x v -> ay (g.all w) (resolve n U x) v := by
 intro n
 induction n with
 | zero => intro x v _; simp only [resolve, ay]
 | succ n ih =>
   intro x v hr
   have hl := h.yW
   have qw : ∀ {l : List AV} {vs : List Value}, aD g l vs -> aD (g.all w) (l.map (resolve n U)) vs := fun h => xX (fun y v _ hy => ih y v hy) h
   have hi : ∀ {aH off : Nat} {vs : List Value}, jf g aH off vs -> jf (g.all w) aH off vs := fun h => h.mono hl
   have box : ∀ {b off : Nat} {l : List AV} {p : Place}, U.box b = some l -> g.place b = some p -> ∃ vs, jf (g.all w) p.aH off vs /\ aD (g.all w) ((l.map (resolve n U)).drop off) vs := fun {b off l p} hb hp => by
    obtain ⟨x', cur, vs, rest, k1, k2, k3, k4, k5, k6, k7, k8⟩ := h.box b l hb
    have k1 : g.place b = some x' := k1
    rw [hp] at k1; cases k1
    refine ⟨vs.drop off, fun i u hu => ?_, (qw k6).drop off⟩
    rw [List.getElem?_drop] at hu
    have aJ : off + i < vs.length := by
     rcases eD (off + i) vs.length with h | h
     · exact h
     · simp [oK h] at hu
    have hc : cur[off + i]? = some u := by rw [<- iH, k5, ua aJ]; exact hu
    exact Fg k2 (by rw [cell_of_row _ _ _ cur p.e (0, 0) k3]; exact hc) (k7 u (fi (by rw [iH]; exact hc)))
   cases x with
   | box b off =>
     simp only [resolve]
     cases hb : U.box b with
     | none => simp only [ay]
     | some l =>
       simp only [ay] at hr ⊢
       obtain ⟨p, hp, rfl⟩ := hr
       obtain ⟨vs, h1, h2⟩ := box (off := off) hb hp
       exact ⟨p.aH, off, vs, rfl, h1, h2⟩
   | ms b off k gz e =>
     simp only [resolve]
     cases hb : U.box b with
     | none => simp only [ay]
     | some l =>
       simp only [ay] at hr ⊢
       obtain ⟨p, c, hp, rfl, q1, q2, _⟩ := hr
       obtain ⟨vs, h1, h2⟩ := box (off := off) hb hp
       exact ⟨p.aH, off, c, vs, rfl, q1, q2, trivial, h1, h2⟩
   | mp m =>
     simp only [resolve]
     cases hm : U.mp m with
     | none => simp only [ay]
     | some kv =>
       obtain ⟨ks, vs⟩ := kv
       simp only [ay] at hr ⊢
       obtain ⟨r, hr, rfl⟩ := hr
       obtain ⟨r', es, clock, q1, q2, q3, qb, ⟨l, q4, q5, q6, q7⟩, q8⟩ := h.mp m _ hm
       rw [hr] at q1; cases q1
       exact ⟨r, es, clock, l, rfl, Ce q2 q3 qb, q4, q5, q6.mono hl, qw q7⟩
   | vec k c l =>
     simp only [ay] at hr
     obtain ⟨aH, off, c', vs, rfl, h1, h2, h3, h4, h5⟩ := hr
     cases c with
     | full => simp only [resolve, ay]; exact ⟨aH, off, c', vs, rfl, h1, h2, h3, hi h4, qw h5⟩
     | own τ => simp only [resolve, ay]; exact ⟨aH, off, c', vs, rfl, h1, h2, trivial, hi h4, qw h5⟩
     | iW => simp only [resolve, ay]; exact ⟨aH, off, c', vs, rfl, h1, h2, trivial, hi h4, qw h5⟩
   | cj l =>
     simp only [resolve, ay] at hr ⊢
     obtain ⟨aH, off, vs, rfl, h1, h2⟩ := hr
     exact ⟨aH, off, vs, rfl, hi h1, qw h2⟩
   | eI ks vs =>
     simp only [resolve, ay] at hr ⊢
     obtain ⟨r, es, c, l, rfl, he, hp, hs, h1, h2⟩ := hr
     exact ⟨r, es, c, l, rfl, hl.bH _ _ he, hp, hs, h1.mono hl, qw h2⟩
   | func f a b =>
     simp only [resolve, ay] at hr ⊢
     obtain ⟨fs, cs, rfl, h1, h2⟩ := hr
     exact ⟨fs, cs, rfl, qw h1, qw h2⟩
   | iface t x =>
     simp only [resolve, ay] at hr ⊢
     obtain ⟨u, rfl, h1⟩ := hr
     exact ⟨u, rfl, ih _ _ h1⟩
   | agg l =>
     simp only [resolve, ay] at hr ⊢
     obtain ⟨vs, rfl, h0, h1⟩ := hr
     exact ⟨vs, rfl, h0, qw h1⟩
   | aQ l =>
     simp only [resolve, ay] at hr ⊢
     obtain ⟨vs, rfl, h1⟩ := hr
     exact ⟨vs, rfl, qw h1⟩
   | pj o => simp only [resolve, ay]
   | it o => simp only [resolve, ay]
   | any => simp only [resolve, ay]
   | bool b => simp only [resolve]; exact hr.mono hl
   | int k n => simp only [resolve]; exact hr.mono hl
   | str s => simp only [resolve]; exact hr.mono hl
   | a7 => simp only [resolve]; exact hr.mono hl
   | al => simp only [resolve]; exact hr.mono hl
   | jT => simp only [resolve]; exact hr.mono hl
   | cZ => simp only [resolve]; exact hr.mono hl
   | cN => simp only [resolve]; exact hr.mono hl
theorem Pure.wz {C : cu} {f : Nat} {args : List AV} {x : AV} (yG : ∀ i, closed (C.u6 i) = true) (hargs : bU args = true) (hx : closed x = true) (d : Nat)
 (h : af C f args (bD ⟨.e, 0⟩) (fun r U => ∃ v, r = .ret v /\ resolve d U v = x)) : Pure C f args x := by
 intro U R hR g w vs hs hG ha
 let g0 : Gh := { base := w.heap.size, w0 := w, place := fun _ => none, bM := g.bM, bH := g.bH, res := fun _ => false }
 have ri : aY g0 (bD ⟨.e, 0⟩) w := {
  below := Below.refl _ _
  le := df _
  bM := hs.bM
  bH := hs.bH
  live := fun b x hb => by cases hb
  apart := fun b b' x x' p p' hb => by cases hb
  res := fun r hr => by cases hr
  fin := ⟨0, fun n hn => by cases hn; rfl, fun _ _ => rfl⟩ }
 have Iy : fP C g0 := ⟨fun i => ay.closed (g := g) (g' := g0) (fun _ _ _ h => h) (fun _ _ h => h) _ _ (yG i) (hG.1 i), fun i cs hi => by
  obtain ⟨k1, t, fr, k2⟩ := hG.2 i cs hi
  refine ⟨Nat.lt_of_lt_of_le k1 hs.le, t, fr, ?_⟩
  show w.heap[i]? = _
  rw [hs.below.block i k1]; exact k2⟩
 have Uo : aD g0 args vs := aD.closed (g := g) (g' := g0) (fun _ _ _ h => h) (fun _ _ h => h) _ _ hargs ha
 refine (h g0 w vs ri Iy Uo).mono ?_
 rintro e w' hp
 cases e with
 | panicked ch => obtain ⟨g', ae, y, v, _, _, _, _, z, hz, _⟩ := hp; cases hz
 | outgrown => exact hp.elim
 | returned v =>
   obtain ⟨g', ae, y, h1, h2, h3, z, hz, hres⟩ := hp
   cases hz
   have bw := xq h2 d y v h3
   rw [hres] at bw
   have qv := h2.yW
   have hle := h1.trans qv
   have abm : g'.base = w.heap.size := h1.base
   have tz : Below w.heap.size w w' := by
    have := h2.below
    rw [h1.base, h1.w0] at this
    exact this
   let gF : Gh := { base := g.base, w0 := g.w0, place := g.place, bM := (g'.all w').bM, bH := (g'.all w').bH, res := g.res }
   have CV : Gh.Le g gF := ⟨rfl, rfl, fun _ _ h => h, fun b o u hu => hle.bM b o u hu, fun b u hu => hle.bH b u hu, fun _ h => h,
    fun b o hb => hle.vr b o (by show b < w.heap.size; have := hs.le; omega), fun b hb => hle.sL b (by show b < w.heap.size; have := hs.le; omega)⟩
   refine ⟨gF, U, x, CV, ?_, ay.closed (g := g'.all w') (g' := gF) (fun _ _ _ h => h) (fun _ _ h => h) x v hx bw, hR⟩
   exact {
    below := hs.below.trans (tz.mono hs.le)
    le := Nat.le_trans hs.le tz.size
    bM := fun q o u hu => tj h2 q o u hu
    bH := fun q es c hu => rO h2 q es c hu
    live := fun b l hb => by
     obtain ⟨p, k1, k2, k3⟩ := hs.live b l hb
     have aJ := k3.lt
     exact ⟨p, k1, k2, k3.frame CV.r (tz.block _ aJ) (fun o => hle.vr _ o aJ) (hle.sL _ aJ)⟩
    apart := hs.apart
    res := fun r hr => by
     obtain ⟨k1, k2⟩ := hs.res r hr
     exact ⟨k1, by rw [tz.block _ (iE.1 k2).1]; exact k2⟩
    fin := hs.fin }
def Ya (d : Nat) (x : AV) : KR
 | .ret v, e => gu (resolve d (bD e) v) x
 | .panic _, _ => false
theorem Pure.eh {V : gh} (hV : oy V) (n d : Nat) {f : Nat} {args : List AV} {x : AV} (yG : ∀ i, closed (V.C.u6 i) = true) (h : (bU args && closed x && pL V (lj V n) f args ⟨.e, 0⟩ (Ya d x)) = true) : Pure V.C f args x := by
 simp only [bN] at h
 refine Pure.wz yG h.1.1 h.1.2 d ((Ud hV n f args ⟨.e, 0⟩ _ h.2).mono ?_)
 rintro r U ⟨e, rfl, hk⟩
 cases r with
 | ret v => exact ⟨v, rfl, sx hk⟩
 | panic v => cases hk
end Go.Rip
namespace Go.Rip
open Go.RowKit
def Pz (R : St -> Prop) : Ex -> Env -> St -> Prop
 | .normal, _, U => R U
 | .ret, _, U => R U
 | _, _, _ => False
theorem R6 {C : cu} {f : FuncId} {fn : Func} {id : Nat} {o : Oper} {d : Nat} {rest : Code} {args : List AV} {U : St} {g : Gh} {w : World} {vs : List Value}
 (hf : C.P.funcs[f]? = some fn) (hb : fn.body = some (.seq (.region id #[o] false) rest)) (hres : fn.results = #[]) (hop : ∀ ev w, (execOp ev o).run C.P w = .ok .recover w) (hd : o.dst = some d) (hdn : d < fn.ntmps) (hg : o.guard = none)
 (hlen : args.length <= fn.ntmps) (hs : aY g U w) (hG : fP C g) (ha : aD g args vs) {x : AV} {v : Value} {u u' : FrameMode} (hx : ay g x v)
 (hu : (u = .returning /\ v = .nilIface /\ u' = .returning) \/ (u = .panicking [{ v, recovered := false }] /\ u' = .panicking [{ v, recovered := true }])) (R : St -> Prop)
 (h : bz C fn.ntmps .bare rest (Pz R) ((Env.gM args).put d x) U) :
 CallsDIn Fence.wide 0 C.P f vs.toArray u w (fun e u2 w' => ∃ v', e = .returned v' /\ u2 = u' /\ ∃ g' ae, Gh.Le g g' /\ aY g' ae w' /\ R ae) := by
 refine callsDIn_of_wpSIn hf hb trivial fun Cx cs hm => ?_
 refine wpSIn_seq (wpSIn_region ?_)
 have hl := ha.length
 have dG : (vs.toArray ++ Array.replicate (fn.ntmps - vs.toArray.size) undef).size = fn.ntmps := by simp; omega
 have zU : fg g (Env.gM args) (vs.toArray ++ Array.replicate (fn.ntmps - vs.toArray.size) undef) := xC args vs _ ha
 have aam := zU.put (d := d) (by rw [dG]; exact hdn) hx
 have after : ∀ yr, (yr = { Cx with mode := u' } :: cs) -> rest.wpSIn Fence.wide 0 C.P (bodyPostS C.P fn Cx cs fun e u2 w' => ∃ v', e = .returned v' /\ u2 = u' /\ ∃ g' ae, Gh.Le g g' /\ aY g' ae w' /\ R ae)
  (Act.put { tmps := vs.toArray ++ Array.replicate (fn.ntmps - vs.toArray.size) undef, defers := [] } o.dst v) yr w := fun yr qp => by
  refine wpSIn_of_wpIn rfl ?_
  have := h g w (Act.put { tmps := vs.toArray ++ Array.replicate (fn.ntmps - vs.toArray.size) undef, defers := [] } o.dst v) none hs hG (by rw [hd]; exact aam) (by rw [(lJ _ _ _).2]; exact dG) trivial
  refine wpIn_mono this ?_
  rintro e a w' ⟨q1, g', ae, dv, ms, q2, q3, q4, q5, q6, q7⟩
  have vj : ms = [] := q3.none rfl
  subst vj
  rw [(lJ _ _ _).1] at q2
  simp only [gP, jA] at q2
  have hr : ∀ tmps, (results fn tmps).run C.P w' = .ok (.tuple #[]) w' := fun tmps => by
   unfold results
   rw [hres]
   simp
  cases e with
  | normal => exact ⟨q2, u', qp, _, hr _, _, rfl, rfl, g', ae, q4, q5, q7⟩
  | ret => exact ⟨q2, u', qp, _, hr _, _, rfl, rfl, g', ae, q4, q5, q7⟩
  | exit id => exact q7.elim
  | panic ch => obtain ⟨_, _, _, _, hf⟩ := q7; exact hf.elim
  | goto l => exact q7.elim
  | outgrown => exact q7.elim
 have hw : Region.wanted o (yielded #[o] (vs.toArray ++ Array.replicate (fn.ntmps - vs.toArray.size) undef)) = true := by simp [Region.wanted, hg]
 show wpOpsSIn Fence.wide 0 C.P #[o] _ [0] _ _ _
 simp only [wpOpsSIn, List.getElem?_toArray, List.getElem?_cons_zero, hw, if_true, hop]
 refine ⟨fun _ _ => trivial, ?_⟩
 rcases hu with ⟨rfl, rfl, rfl⟩ | ⟨rfl, rfl⟩
 · have e1 : recoverD (Cx :: cs) = none := by simp [recoverD, hm]
   rw [e1]
   exact after _ (by rw [<- hm])
 · have e1 : recoverD (Cx :: cs) = some (v, { Cx with mode := .panicking [{ v, recovered := true }] } :: cs) := by simp [recoverD, hm]
   rw [e1]
   exact after _ rfl
end Go.Rip
