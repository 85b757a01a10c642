/- Lemmas for the proof: no conditions. -/
import Derived.Test.YtnfpmiiopiinbaaGreatDoorRipZz
import Derived.Test.YtnfpmiiopiinbaaGreatDoorRipA
import Derived.OrdersIn
import Derived.RecoverIn
set_option linter.unusedVariables false
set_option linter.unusedSimpArgs false
set_option linter.loopingSimpArgs false
namespace Go.Rip
open Go.RowKit
inductive cD where
 | ret (x : AV)
 | panic (x : AV)
inductive Ex where
 | normal
 | exit (id : Nat)
 | ret
 | panic (x : AV)
def FW (ro : Option Nat) : Fence := { Fence.wide with round := ro }
def mv (g : Gh) (R : cD -> St -> Prop) : Ending -> World -> Prop
 | .returned v, w' => ∃ g' ae x, Gh.Le g g' /\ aZ g' ae w' /\ az g' x v /\ R (.ret x) ae
 | .panicked ch, w' => ∃ g' ae x v, ch = [{ v, recovered := false }] /\ Gh.Le g g' /\ aZ g' ae w' /\ az g' x v /\ R (.panic x) ae
 | .outgrown, _ => False
def af (C : cw) (f : FuncId) (args : List AV) (U : St) (R : cD -> St -> Prop) : Prop :=
 ∀ g w vs, aZ g U w -> fU C g -> aE g args vs -> CallsIn Fence.wide 0 C.P f (List.toArray vs) w (mv g R)
def jW (C : cw) (o : Nat) (args : List AV) (U : St) (R : cD -> St -> Prop) : Prop :=
 ∀ g w vs x, aZ g U w -> fU C g -> aE g args vs -> g.place o = some x -> ∃ fn tmps assign body, (Instr.yield x.aH (List.toArray vs)).run C.P w = .ok (.round x.aH fn tmps assign body) w /\
  RoundIn Fence.wide 0 C.P x.aH fn tmps assign body w (mv g R)
theorem mv.mono {g : Gh} {R R' : cD -> St -> Prop} {e : Ending} {w : World} (h : mv g R e w) (hr : ∀ r U, R r U -> R' r U) : mv g R' e w := by
 cases e with
 | returned v => obtain ⟨g', ae, x, h1, h2, h3, h4⟩ := h; exact ⟨g', ae, x, h1, h2, h3, hr _ _ h4⟩
 | panicked ch => obtain ⟨g', ae, x, v, h0, h1, h2, h3, h4⟩ := h; exact ⟨g', ae, x, v, h0, h1, h2, h3, hr _ _ h4⟩
 | outgrown => exact h
theorem af.mono {C : cw} {f : FuncId} {args : List AV} {U : St} {R R' : cD -> St -> Prop} (h : af C f args U R) (hr : ∀ r U, R r U -> R' r U) : af C f args U R' :=
 fun g w vs hs hG ha => (h g w vs hs hG ha).mono fun _ _ hp => hp.mono hr
theorem jW.mono {C : cw} {f : Nat} {args : List AV} {U : St} {R R' : cD -> St -> Prop} (h : jW C f args U R) (hr : ∀ r U, R r U -> R' r U) : jW C f args U R' :=
 fun g w vs x hs hG ha hx => let ⟨a, b, c, d, e, r⟩ := h g w vs x hs hG ha hx; ⟨a, b, c, d, e, r.mono fun _ _ hp => hp.mono hr⟩
def ax (K : AV -> St -> Prop) (Kp : AV -> St -> Prop) : cD -> St -> Prop
 | .ret x, U => K x U
 | .panic x, U => Kp x U
def au.wp (C : cw) (U : St) (K : AV -> St -> Prop) (Kp : AV -> St -> Prop) : au -> Prop
 | .val v => K v U
 | .jQ v b x => K v (U.set b x)
 | .new k del x => ∀ b, (U.pQ del).cY b -> K (k.at b) ((U.pQ del).new b x)
 | .jz b l => ∀ p ∈ l, K p.1 (U.set b p.2)
 | .enter f args => af C f args U (ax K Kp)
 | .yield l args => jW C l args U (ax K Kp)
 | .panic v => Kp v U
 | @au.cond p _ r => p /\ r.wp C U K Kp
 | .bad => False
def gd (ops : Array Oper) (ρ : Env) : Option (Nat × Bool) -> AV
 | none => .bool true
 | some (j, want) => match (ops[j]?).bind (·.dst) with
   | some d => match ρ.get d with
     | .bool b => .bool (b == want)
     | .aR [] => .bool false
     | _ => .any
   | none => .any
def aq : AV -> Prop -> Prop -> Prop
 | .bool b, A, B => (b = true -> A) /\ (b = false -> B)
 | _, _, _ => False
def mM (C : cw) (mu : List Nat) (ops : Array Oper) : List Oper -> Env -> St -> (Env -> St -> Prop) -> (AV -> St -> Prop) -> Prop
 | [], ρ, U, K, _ => K ρ U
 | o :: rest, ρ, U, K, Kp => aq (gd ops ρ o.guard)
    ((gY C (match o.dst with | some d => mu.contains d | none => false) o.op ρ U).wp C U (fun v ae => mM C mu ops rest (ρ.ep o.dst v) ae K Kp) Kp)
    (mM C mu ops rest (ρ.ep o.dst (.aR [])) U K Kp)
def Cz (r : Nat) : Deferred := { target := .collected r, args := #[] }
def C9 (g : Gh) (Q : Ex -> Env -> St -> Prop) (ρ : Env) (U : St) : Exit -> Prop
 | .normal => Q .normal ρ U
 | .exit id => Q (.exit id) ρ U
 | .ret => Q .ret ρ U
 | .panic ch => ∃ x v, ch = [{ v, recovered := false }] /\ az g x v /\ Q (.panic x) ρ U
 | .goto _ => False
 | .outgrown => False
inductive Ro where
 | fn
 | bare
 | round (o : Nat)
def Ro.nm : Ro -> Bool
 | .bare => true
 | _ => false
structure mj (nm : Bool) (g g' : Gh) (ms : List Nat) : Prop where
 none : nm = true -> ms = []
 nodup : ms.Nodup
 res : ∀ r ∈ ms, g'.res r = true /\ g.res r = false
theorem jJ (nm : Bool) (g g' : Gh) : mj nm g g' [] := ⟨fun _ => rfl, List.nodup_nil, by simp⟩
theorem mj.append {nm : Bool} {g g1 g2 : Gh} {m1 m2 : List Nat} (h1 : mj nm g g1 m1) (h2 : mj nm g1 g2 m2) (l1 : Gh.Le g g1) (l2 : Gh.Le g1 g2) : mj nm g g2 (m2 ++ m1) := by
 refine ⟨fun h => by rw [h1.none h, h2.none h]; rfl, List.nodup_append.2 ⟨h2.nodup, h1.nodup, fun x hx y hy e => ?_⟩, fun r hr => ?_⟩
 · subst e
   have := (h2.res x hx).2
   rw [(h1.res x hy).1] at this; cases this
 · simp only [eZ] at hr
   rcases hr with hr | hr
   · refine ⟨(h2.res r hr).1, ?_⟩
     cases e : g.res r with
     | false => rfl
     | true => have := (h2.res r hr).2; rw [l1.res _ e] at this; cases this
   · exact ⟨l2.res _ (h1.res r hr).1, (h1.res r hr).2⟩
def oE (g : Gh) (nt : Nat) (nm : Bool) (ds : List Deferred) (Q : Ex -> Env -> St -> Prop) (e : Exit) (a : Act) (w : World) : Prop :=
 a.tmps.size = nt /\ ∃ g' U ρ ms, a.defers = ms.map Cz ++ ds /\ mj nm g g' ms /\ Gh.Le g g' /\ aZ g' U w /\ fA g' ρ a.tmps /\ C9 g' Q ρ U e
def CO (g : Gh) : Ro -> Option Nat -> Prop
 | .fn, none => True
 | .bare, none => True
 | .round o, some l => ∃ x, g.place o = some x /\ x.aH = l
 | _, _ => False
theorem CO.mono {g g' : Gh} (h : Gh.Le g g') {ro : Ro} {fr : Option Nat} (hr : CO g ro fr) : CO g' ro fr := by
 cases ro <;> cases fr <;> simp only [CO] at hr ⊢
 obtain ⟨x, h1, h2⟩ := hr
 exact ⟨x, h.place _ _ h1, h2⟩
def bw (C : cw) (nt : Nat) (ro : Ro) (c : Code) (Q : Ex -> Env -> St -> Prop) (ρ : Env) (U : St) : Prop :=
 ∀ g w a fr, aZ g U w -> fU C g -> fA g ρ a.tmps -> a.tmps.size = nt -> CO g ro fr -> c.wpIn (FW fr) 0 C.P (oE g nt ro.nm a.defers Q) a w
section
variable {C : cw} {g : Gh} {U : St} {w : World} {nt : Nat} {nm : Bool} {ro : Ro} {Q : Ex -> Env -> St -> Prop} {ρ : Env}
theorem C9.mono {Q' : Ex -> Env -> St -> Prop} {e : Exit} (h : C9 g Q ρ U e) (hq : ∀ e ρ U, Q e ρ U -> Q' e ρ U) : C9 g Q' ρ U e := by
 cases e <;> first
  | exact hq _ _ _ h
  | (obtain ⟨x, v, h1, h2, h3⟩ := h; exact ⟨x, v, h1, h2, hq _ _ _ h3⟩)
  | exact h
theorem bw.mono {c : Code} {Q' : Ex -> Env -> St -> Prop} (h : bw C nt ro c Q ρ U) (hq : ∀ e ρ U, Q e ρ U -> Q' e ρ U) : bw C nt ro c Q' ρ U :=
 fun g w a fr h1 h2 h3 h4 qP => wpIn_mono (h g w a fr h1 h2 h3 h4 qP) fun e a' w' ⟨k1, g', ae, dH, ms, k2, k3, k4, k5, k6, k7⟩ => ⟨k1, g', ae, dH, ms, k2, k3, k4, k5, k6, k7.mono hq⟩
theorem oE.back {g' : Gh} {ds : List Deferred} {ms : List Nat} {e : Exit} {a : Act} (h : oE g' nt nm (ms.map Cz ++ ds) Q e a w) (wb : mj nm g g' ms) (hle : Gh.Le g g') : oE g nt nm ds Q e a w := by
 obtain ⟨k1, g2, ae, dH, D9, k2, k3, k4, k5, k6, k7⟩ := h
 exact ⟨k1, g2, ae, dH, D9 ++ ms, by rw [k2, List.map_append, nI], wb.append k3 hle k4, hle.trans k4, k5, k6, k7⟩
def Wp (K : Env -> St -> Prop) (Q : Ex -> Env -> St -> Prop) : Ex -> Env -> St -> Prop
 | .normal, ρ, U => K ρ U
 | e, ρ, U => Q e ρ U
theorem bw.seq {x y : Code} (h : bw C nt ro x (Wp (fun ρ U => bw C nt ro y Q ρ U) Q) ρ U) : bw C nt ro (.seq x y) Q ρ U := by
 intro g w a fr h1 h2 h3 h4 qP
 refine wpIn_seq (wpIn_mono (h g w a fr h1 h2 h3 h4 qP) ?_)
 rintro e a' w' ⟨k1, g', ae, dH, ms, k2, k3, k4, k5, k6, k7⟩
 cases e with
 | normal =>
   have := k7 g' w' a' fr k5 (h2.mono k4) k6 k1 (qP.mono k4)
   rw [k2] at this
   exact wpIn_mono this fun e a w hp => hp.back k3 k4
 | exit id => exact ⟨k1, g', ae, dH, ms, k2, k3, k4, k5, k6, k7⟩
 | ret => exact ⟨k1, g', ae, dH, ms, k2, k3, k4, k5, k6, k7⟩
 | panic ch => exact ⟨k1, g', ae, dH, ms, k2, k3, k4, k5, k6, k7⟩
 | goto l => exact k7.elim
 | outgrown => exact k7.elim
theorem wA {a : Act} {ds : List Deferred} {e : Exit} (h : aZ g U w) (hr : fA g ρ a.tmps) (hn : a.tmps.size = nt) (hd : a.defers = ds) (hq : C9 g Q ρ U e) : oE g nt nm ds Q e a w :=
 ⟨hn, g, U, ρ, [], by simpa using hd, jJ _ _ _, Gh.Le.refl g, h, hr, hq⟩
theorem bw.skip (h : Q .normal ρ U) : bw C nt ro .skip Q ρ U := fun g w a fr h1 h2 h3 h4 _ => wpIn_skip (wA h1 h3 h4 rfl h)
theorem bw.exit {id : Nat} (h : Q (.exit id) ρ U) : bw C nt ro (.exit id) Q ρ U := fun g w a fr h1 h2 h3 h4 _ => wpIn_exit (wA h1 h3 h4 rfl h)
theorem bw.ret (h : Q .ret ρ U) : bw C nt ro .ret Q ρ U := fun g w a fr h1 h2 h3 h4 _ => wpIn_ret (wA h1 h3 h4 rfl h)
theorem bw.cond {c : Operand} {x y : Code} {b : Bool} (hc : ρ.ev C c = .bool b) (h1 : b = true -> bw C nt ro x Q ρ U) (h2 : b = false -> bw C nt ro y Q ρ U) : bw C nt ro (.cond c x y) Q ρ U := by
 intro g w a fr k1 k2 k3 k4 k5
 have := qK k2 k3 c
 rw [hc] at this
 simp only [az] at this
 exact wpIn_cond_split this (fun e => h1 e g w a fr k1 k2 k3 k4 k5) (fun e => h2 e g w a fr k1 k2 k3 k4 k5)
theorem bw.X3 {c : Operand} {x y : Code} (hc : ρ.ev C c = .bool true) (h1 : bw C nt ro x Q ρ U) : bw C nt ro (.cond c x y) Q ρ U := bw.cond hc (fun _ => h1) (fun h => by cases h)
theorem bw.X2 {c : Operand} {x y : Code} (hc : ρ.ev C c = .bool false) (h1 : bw C nt ro y Q ρ U) : bw C nt ro (.cond c x y) Q ρ U := bw.cond hc (fun h => by cases h) (fun _ => h1)
def vH (id : Nat) (Q : Ex -> Env -> St -> Prop) : Ex -> Env -> St -> Prop
 | .exit xW, ρ, U => if xW = id then Q .normal ρ U else Q (.exit xW) ρ U
 | e, ρ, U => Q e ρ U
theorem bw.block {id : Nat} {c : Code} (h : bw C nt ro c (vH id Q) ρ U) : bw C nt ro (.block id c) Q ρ U := by
 intro g w a fr h1 h2 h3 h4 qP
 refine wpIn_block (wpIn_mono (h g w a fr h1 h2 h3 h4 qP) ?_)
 rintro e a' w' ⟨k1, g', ae, dH, ms, k2, k3, k4, k5, k6, k7⟩
 cases e with
 | normal => exact ⟨k1, g', ae, dH, ms, k2, k3, k4, k5, k6, k7⟩
 | exit xW =>
   have k7 : vH id Q (.exit xW) dH ae := k7
   simp only [vH] at k7
   simp only [Exit.inBlock]
   split
   · rename_i e; rw [if_pos e] at k7; exact ⟨k1, g', ae, dH, ms, k2, k3, k4, k5, k6, k7⟩
   · rename_i e; rw [if_neg e] at k7; exact ⟨k1, g', ae, dH, ms, k2, k3, k4, k5, k6, k7⟩
 | ret => exact ⟨k1, g', ae, dH, ms, k2, k3, k4, k5, k6, k7⟩
 | panic ch => exact ⟨k1, g', ae, dH, ms, k2, k3, k4, k5, k6, k7⟩
 | goto l => exact k7.elim
 | outgrown => exact k7.elim
theorem bw.loop {c : Code} (I : Nat -> Env -> St -> Prop) {n : Nat} (h0 : I n ρ U) (round : ∀ n ρ U, I n ρ U -> bw C nt ro c (Wp (fun dH ae => ∃ m, m < n /\ I m dH ae) Q) ρ U) : bw C nt ro (.loop c) Q ρ U := by
 intro g w a fr h1 h2 h3 h4 qP
 let J : Nat -> Act -> World -> Prop := fun n a' w' => a'.tmps.size = nt /\ ∃ g' ae dH ms, a'.defers = ms.map Cz ++ a.defers /\ mj ro.nm g g' ms /\ Gh.Le g g' /\ aZ g' ae w' /\ fA g' dH a'.tmps /\ I n dH ae
 have ex : ∀ a' w', (∃ n, J n a' w') -> ∃ n, J n a' w' /\ ∀ m, m < n -> ¬ J m a' w' := fun a' w' ⟨n, hn⟩ => by
  induction n using Nat.strongRecOn with
  | _ n ih =>
    by_cases hm : ∃ m, m < n /\ J m a' w'
    · obtain ⟨m, Gl, Qp⟩ := hm; exact ih m Gl Qp
    · exact ⟨n, hn, fun m Gl Qp => hm ⟨m, Gl, Qp⟩⟩
 classical
 let μ : Act -> World -> Nat := fun a' w' => if h : ∃ n, J n a' w' then (ex a' w' h).choose else 0
 have ZV : ∀ a' w', (∃ n, J n a' w') -> J (μ a' w') a' w' /\ ∀ m, m < μ a' w' -> ¬ J m a' w' := fun a' w' h => by
  have := (ex a' w' h).choose_spec
  simp only [μ, dif_pos h]; exact this
 refine wpIn_loop (fun a' w' => ∃ n, J n a' w') μ ⟨n, h4, g, U, ρ, [], by simp, jJ _ _ _, Gh.Le.refl g, h1, h3, h0⟩ ?_
 intro a' w' hJ
 obtain ⟨⟨k1, g', ae, dH, ms, k2, k3, k4, k5, k6, k7⟩, _⟩ := ZV a' w' hJ
 refine wpIn_mono (round _ dH ae k7 g' w' a' fr k5 (h2.mono k4) k6 k1 (qP.mono k4)) ?_
 intro e a2 w2 hp
 rw [k2] at hp
 have hp := hp.back k3 k4
 obtain ⟨q1, g2, bP, pO, D9, q2, q3, q4, q5, q6, q7⟩ := hp
 cases e with
 | normal =>
   obtain ⟨m, hm, hI⟩ := q7
   have UN : J m a2 w2 := ⟨q1, g2, bP, pO, D9, q2, q3, q4, q5, q6, hI⟩
   refine ⟨⟨m, UN⟩, ?_⟩
   have := (ZV a2 w2 ⟨m, UN⟩).2
   rcases eM (μ a2 w2) (μ a' w') with h | h
   · exact h
   · exact absurd UN (this m (by omega))
 | exit id => exact ⟨q1, g2, bP, pO, D9, q2, q3, q4, q5, q6, q7⟩
 | ret => exact ⟨q1, g2, bP, pO, D9, q2, q3, q4, q5, q6, q7⟩
 | panic ch => exact ⟨q1, g2, bP, pO, D9, q2, q3, q4, q5, q6, q7⟩
 | goto l => exact q7.elim
 | outgrown => exact q7.elim
end
end Go.Rip
namespace Go.Rip
open Go.RowKit
section
variable {C : cw} {g : Gh} {U : St} {w : World} {nt : Nat} {nm : Bool} {ro : Ro} {fr : Option Nat} {Q : Ex -> Env -> St -> Prop} {ρ : Env}
def yF (nt : Nat) (o : Oper) : Bool :=
 (match o.dst with | some d => decide (d < nt) | none => true) && (match o.op with | .defer _ => false | _ => true)
def kL (nt : Nat) (ops : Array Oper) : Bool := ops.toList.all (yF nt)
theorem xJ {ops : Array Oper} {a : Act} (hr : fA g ρ a.tmps) {o : Oper} {b : Bool} (h : gd ops ρ o.guard = .bool b) : Region.wanted o (yielded ops a.tmps) = b := by
 unfold gd at h
 unfold Region.wanted
 cases hg : o.guard with
 | none => simp [hg] at h; simp [h]
 | some jw =>
   obtain ⟨j, want⟩ := jw
   simp only [hg] at h ⊢
   split at h
   · rename_i d hd
     split at h
     · rename_i b' hb
       simp only [AV.bool.injEq] at h
       subst h
       have := hr d
       rw [hb] at this
       simp only [az] at this
       have pR : a.tmps[d]? = some (.bool b') := by
        rw [Array.getD_eq_getD_getElem?] at this
        cases ht : a.tmps[d]? with
        | none => rw [ht] at this; simp [undef] at this
        | some v => rw [ht] at this; simp at this; rw [this]
       unfold yielded
       rw [hd]
       simp only [Option.bind_some, pR]
       cases b' <;> cases want <;> rfl
     · rename_i hb
       simp only [AV.bool.injEq] at h
       subst h
       have := hr d
       rw [hb] at this
       simp only [az, aE] at this
       obtain ⟨vs, this, rfl⟩ := this
       have pR : ∀ b, a.tmps[d]? ≠ some (.bool b) := fun b dm => by
        rw [Array.getD_eq_getD_getElem?, dm] at this
        simp at this
       unfold yielded
       rw [hd]
       simp only [Option.bind_some]
       first
        | rfl
        | (split
           · rename_i b' dm; exact absurd dm (pR _)
           · rfl)
     · cases h
   · cases h
theorem lW (a : Act) (dst : Option Tmp) (v : Value) : (a.put dst v).defers = a.defers /\ (a.put dst v).tmps.size = a.tmps.size := by
 cases dst <;> simp [Act.put]
theorem fA.ep {a : Act} (hr : fA g ρ a.tmps) {dst : Option Tmp} {x : AV} {v : Value} (hd : ∀ d, dst = some d -> d < a.tmps.size) (hx : az g x v) : fA g (ρ.ep dst x) (a.put dst v).tmps := by
 cases dst with
 | none => exact hr
 | some d => exact hr.put (hd d rfl) hx
theorem sc : az g (.aR []) undef := by simp only [az]; exact ⟨[], rfl, by simp [aE]⟩
def KQ (Q : Ex -> Env -> St -> Prop) : Env -> St -> Prop := fun ρ U => Q .normal ρ U
def vy (Q : Ex -> Env -> St -> Prop) : AV -> St -> Prop := fun x U => ∀ ρ, Q (.panic x) ρ U
theorem nF {o : Oper} (cF : yF nt o = true) {mu : Bool} {K : AV -> St -> Prop} {Kp : AV -> St -> Prop} {ds : List Deferred} {next : Act -> World -> Prop} {a : Act}
 (hs : aZ g U w) (hG : fU C g) (hr : fA g ρ a.tmps) (hn : a.tmps.size = nt)
 (h : (gY C mu o.op ρ U).wp C U K Kp)
 (ml : ∀ g' ae w' x v, Gh.Le g g' -> aZ g' ae w' -> az g' x v -> K x ae -> next (a.put o.dst v) w')
 {QQ : Exit -> Act -> World -> Prop} (DC : ∀ g' ae w' x v, Gh.Le g g' -> aZ g' ae w' -> az g' x v -> Kp x ae -> QQ (.panic [{ v, recovered := false }]) a w') :
 o.wpIn (FW fr) 0 C.P a w next QQ := by
 refine ⟨fun _ _ => trivial, ?_⟩
 have Ox : ∀ c, o.op ≠ .defer c := fun c e => by simp [yF, e] at cF
 rw [Oper.semAt_eq _ _ _ Ox]
 have fits := OR (C := C) hs hG hr mu o
 generalize hres : (execOp a.eval o).run C.P w = res at fits ⊢
 generalize gY C mu o.op ρ U = r at fits h
 have val : ∀ {x ae}, (∃ u w' g', (res = .ok (.value u) w' \/ (res = .ok .skip w' /\ u = undef)) /\ Gh.Le g g' /\ aZ g' ae w' /\ az g' x u) -> K x ae -> o.uponIn (FW fr) 0 C.P a next QQ res := by
  rintro x ae ⟨u, w', g', hu, hle, dL, hx⟩ hk
  rcases hu with rfl | ⟨rfl, rfl⟩
  · exact ml g' ae w' x u hle dL hx hk
  · exact ml g' ae w' x undef hle dL hx hk
 induction r with
 | val v => exact val fits h
 | jQ v b x => exact val fits h
 | new k del x => obtain ⟨u, w', g', b, rfl, hb, hle, dL, hx⟩ := fits; exact ml g' _ w' _ u hle dL hx (h b hb)
 | jz b l => obtain ⟨u, w', g', v, x, rfl, hm, hle, dL, hx⟩ := fits; exact ml g' _ w' _ u hle dL hx (h (v, x) hm)
 | enter f args =>
   obtain ⟨vs, w', rfl, dL, ha⟩ := fits
   refine ⟨fun hd => by simp [FW, Fence.wide] at hd, ?_⟩
   have hc : CallsIn (FW fr) 0 C.P f (List.toArray vs) w' (mv g (ax K Kp)) := h g w' vs dL hG ha
   refine hc.mono ?_
   rintro e w2 hp
   cases e with
   | returned v => obtain ⟨g', ae, x, h1, h2, h3, h4⟩ := hp; exact ml g' ae w2 x v h1 h2 h3 h4
   | panicked ch => obtain ⟨g', ae, x, v, rfl, h1, h2, h3, h4⟩ := hp; exact DC g' ae w2 x v h1 h2 h3 h4
   | outgrown => exact hp.elim
 | yield l args =>
   obtain ⟨vs, x, w0, w', hx, rfl, rfl, dL, ha⟩ := fits
   obtain ⟨fn, tmps, assign, body, hy, hR⟩ := h g w' vs x dL hG ha hx
   rw [hy]
   refine ⟨fun hd => by simp [FW, Fence.wide] at hd, ?_⟩
   have hc : RoundIn (FW fr) 0 C.P x.aH fn tmps assign body w' (mv g (ax K Kp)) := hR
   refine hc.mono ?_
   rintro e w2 hp
   cases e with
   | returned v => obtain ⟨g', ae, x, h1, h2, h3, h4⟩ := hp; exact ml g' ae w2 x v h1 h2 h3 h4
   | panicked ch => obtain ⟨g', ae, x, v, rfl, h1, h2, h3, h4⟩ := hp; exact DC g' ae w2 x v h1 h2 h3 h4
   | outgrown => exact hp.elim
 | panic v => obtain ⟨u, w', rfl, dL, hx⟩ := fits; exact DC g _ w' v u (Gh.Le.refl g) dL hx h
 | cond p r ih => exact ih (fits h.1) h.2
 | bad => exact h.elim
theorem uC {mu : List Nat} {ops : Array Oper} (cF : kL nt ops = true) (g0 : Gh) : ∀ (l : List Nat) (g : Gh) (U : St) (w : World) (ρ : Env) (a : Act) (ds : List Deferred), Gh.Le g0 g -> aZ g U w -> fU C g -> fA g ρ a.tmps -> a.tmps.size = nt -> a.defers = ds ->
 mM C mu ops (l.filterMap (ops[·]?)) ρ U (KQ Q) (vy Q) -> wpOpsIn (FW fr) 0 C.P ops (oE g0 nt nm ds Q) l a w
 | [], g, U, w, ρ, a, ds, h0, hs, hG, hr, hn, hd, h => by
   simp only [wpOpsIn]
   exact ⟨hn, g, U, ρ, [], by simpa using hd, jJ _ _ _, h0, hs, hr, h⟩
 | i :: rest, g, U, w, ρ, a, ds, h0, hs, hG, hr, hn, hd, h => by
   simp only [wpOpsIn]
   cases ho : ops[i]? with
   | none =>
     simp only [List.filterMap_cons, ho] at h
     exact uC cF g0 rest g U w ρ a ds h0 hs hG hr hn hd h
   | some o =>
     dsimp only
     simp only [List.filterMap_cons, ho, mM] at h
     have kF : o ∈ ops.toList := by
      have := fO (l := ops.toList) (i := i) (a := o) (by rw [jc]; exact ho)
      exact this
     have DB : yF nt o = true := by
      unfold kL at cF
      rw [ef] at cF
      exact cF o kF
     have Oy : ∀ d, o.dst = some d -> d < a.tmps.size := fun d p4 => by
      simp only [yF, p4, bR, c7] at DB
      rw [hn]; exact DB.1
     have go : ∀ g' ae w' x v, Gh.Le g g' -> aZ g' ae w' -> az g' x v -> mM C mu ops (rest.filterMap (ops[·]?)) (ρ.ep o.dst x) ae (KQ Q) (vy Q) -> wpOpsIn (FW fr) 0 C.P ops (oE g0 nt nm ds Q) rest (a.put o.dst v) w' := fun g' ae w' x v hle dL hx hk =>
      uC cF g0 rest g' ae w' (ρ.ep o.dst x) (a.put o.dst v) ds (h0.trans hle) dL (hG.mono hle) ((hr.mono hle).ep Oy hx) (by rw [(lW a o.dst v).2]; exact hn) (by rw [(lW a o.dst v).1]; exact hd) hk
     cases Jv : gd ops ρ o.guard <;> rw [Jv] at h <;> simp only [aq] at h
     rename_i b
     have hw := xJ hr Jv
     cases b
     · rw [if_neg (by rw [hw]; simp)]
       exact ⟨fun _ _ => trivial, go g U w (.aR []) undef (Gh.Le.refl g) hs sc (h.2 rfl)⟩
     · rw [if_pos hw]
       refine nF DB hs hG hr hn (h.1 rfl) go ?_ (ds := ds)
       intro g' ae w' x v hle dL hx hk
       exact ⟨hn, g', ae, ρ, [], by simpa using hd, jJ _ _ _, h0.trans hle, dL, hr.mono hle, x, v, rfl, hx, hk ρ⟩
theorem zZ (ops : Array Oper) : (List.range ops.size).filterMap (ops[·]?) = ops.toList := by
 apply List.ext_getElem?
 intro i
 have : ∀ n, n <= ops.size -> (List.range n).filterMap (ops[·]?) = ops.toList.take n := fun n => by
  induction n with
  | zero => intro _; simp
  | succ n ih =>
    intro hn
    rw [List.range_succ, List.filterMap_append, ih (by omega), nH]
    have : ops[n]? = some ops[n] := by simp
    simp [this]
 rw [this ops.size (cX _), o7 (by simp)]
theorem bw.region {id : Nat} {ops : Array Oper} (mu : List Nat) (cF : kL nt ops = true) (h : mM C mu ops ops.toList ρ U (KQ Q) (vy Q)) : bw C nt ro (.region id ops false) Q ρ U := by
 intro g w a fr h1 h2 h3 h4 qP
 exact wpIn_region (uC cF g (List.range ops.size) g U w ρ a a.defers (Gh.Le.refl g) h1 h2 h3 h4 rfl (by rw [zZ]; exact h))
end
end Go.Rip
namespace Go.Rip
open Go.RowKit
def lK (x : AV) (U : St) (x' : AV) (ae : St) : Prop := ∀ g w v, aZ g U w -> az g x v -> ∃ g', Gh.Le g g' /\ aZ g' ae w /\ az g' x' v
theorem lK.refl (x : AV) (U : St) : lK x U x U := fun g w v h hr => ⟨g, Gh.Le.refl g, h, hr⟩
theorem lK.trans {x y z : AV} {a b c : St} (h : lK x a y b) (k : lK y b z c) : lK x a z c := fun g w v hs hr =>
 let ⟨g1, l1, s1, r1⟩ := h g w v hs hr
 let ⟨g2, l2, s2, r2⟩ := k g1 w v s1 r1
 ⟨g2, l1.trans l2, s2, r2⟩
theorem lK.weaken (x : AV) {U ae : St} (h : St.Le ae U) : lK x U x ae := fun g w v hs hr => ⟨g, Gh.Le.refl g, hs.weaken h, hr⟩
theorem lK.freeze {b : Nat} {U : St} {l : List AV} (hb : U.box b = some l) : lK (.box b 0) U (.ck l) (U.del b) := fun g w v hs hr => by
 simp only [az] at hr
 obtain ⟨x, hx, rfl⟩ := hr
 obtain ⟨g', vs, hle, _, hi, hl, dL⟩ := hs.freeze hb hx
 exact ⟨g', hle, dL, by simp only [az]; exact ⟨x.aH, 0, vs, rfl, hi, hl.mono hle⟩⟩
def xg (P : Program) (t : TypeId) (p : AV) (U : St) (k : AV -> Prop) : Prop :=
 match rR P t p U with
 | .val v => k v
 | @au.cond q _ (.val v) => q /\ k v
 | _ => False
def sL (P : Program) (ρ : Env) (U : St) : List ResultVar -> (List AV -> Prop) -> Prop
 | [], k => k []
 | .tmp t :: rs, k => sL P ρ U rs fun vs => k (ρ.get t :: vs)
 | .cell t ty :: rs, k => xg P ty (ρ.get t) U fun v => sL P ρ U rs fun vs => k (v :: vs)
def sP : List AV -> AV
 | [x] => x
 | l => .aR l
def aa9 (P : Program) (fn : Func) (R : cD -> St -> Prop) : Ex -> Env -> St -> Prop
 | .normal, ρ, U | .ret, ρ, U => sL P ρ U fn.results.toList fun vs => ∃ x ae, lK (sP vs) U x ae /\ R (.ret x) ae
 | .panic x, _, U => R (.panic x) U
 | .exit _, _, _ => False
def Env.gX (args : List AV) : Env := ⟨fun t => args.getD t (.aR [])⟩
section
variable {C : cw} {g : Gh} {U : St} {w : World} {nt : Nat} {ro : Ro} {Q : Ex -> Env -> St -> Prop} {ρ : Env}
theorem J3 (h : aZ g U w) {t : TypeId} {p : AV} {v : Value} (hp : az g p v) {k : AV -> Prop} (hk : xg C.P t p U k) : ∃ u x, (do loadVar t (<- asAddr v) : Sem Value).run C.P w = .ok u w /\ az g x u /\ k x := by
 unfold xg rR at hk
 cases hv : lA C.P t with
 | none => simp [hv] at hk
 | some bs =>
   obtain ⟨b, sz⟩ := bs
   cases hl : jX U p with
   | none => rw [hv, hl] at hk; cases b <;> simp at hk
   | some l =>
     rw [hv, hl] at hk
     obtain ⟨i, d, hi, hd, hb, dD⟩ := mf hv
     obtain ⟨a, vs, rfl, ha, hr, hc⟩ := po h hp hl
     cases b
     · cases l with
       | nil => simp [gg] at hk
       | cons x xs =>
         simp only [gg] at hk
         simp only [aE] at hr
         obtain ⟨u, us, rfl, h1, h2⟩ := hr
         have := (hc 0 u rfl).1
         have h0 : a.add 0 = a := by simp [Addr.add]
         rw [h0] at this
         refine ⟨u, x, ?_, h1, hk⟩
         simp only [asAddr, loadVar, bN, cj, bX, jD hd, hb, bo, if_false, run_load, this, eu]
     · obtain ⟨hle, hk⟩ := hk
       have hlen := hr.length
       have fK : (loadCells a (vs.take sz).length).run C.P w = .ok (vs.take sz).toArray w :=
        run_loadCells_list (P := C.P) w a (vs.take sz) fun j u hu => by
         rw [List.getElem?_take] at hu
         split at hu
         · exact (hc j u hu).1
         · cases hu
       have pI : (vs.take sz).length = sz := by simp; omega
       rw [pI] at fK
       have Je : ∀ u ∈ vs.take sz, u.oneCell' = true := fun u hu => by
        obtain ⟨j, hj⟩ := List.getElem?_of_mem hu
        rw [List.getElem?_take] at hj
        split at hj
        · exact (hc j u hj).2
        · cases hj
       refine ⟨.agg (vs.take sz).toArray, _, ?_, ?_, hk⟩
       · simp only [asAddr, loadVar, bN, cj, bX, jD hd, hb, if_true, dW hi, dD, fK, eu]
       · simp only [az]; exact ⟨_, rfl, Je, hr.take sz⟩
theorem yL (h : aZ g U w) {a : Act} (hr : fA g ρ a.tmps) : ∀ (rs : List ResultVar) (k : List AV -> Prop), sL C.P ρ U rs k ->
 ∃ us xs, (rs.mapM (fun
  | .tmp t => pure (a.tmps.getD t undef)
  | .cell p t => do loadVar t (<- asAddr (a.tmps.getD p undef)) : ResultVar -> Sem Value)).run C.P w = .ok us w /\ aE g xs us /\ k xs
 | [], k, hk => ⟨[], [], by simp, by simp [aE], hk⟩
 | .tmp t :: rs, k, hk => by
   obtain ⟨us, xs, h1, h2, h3⟩ := yL h hr rs _ hk
   exact ⟨a.tmps.getD t undef :: us, ρ.get t :: xs, by simp only [List.mapM_cons, bN, cj, bX, h1], by simp only [aE]; exact ⟨_, _, rfl, hr t, h2⟩, h3⟩
 | .cell p t :: rs, k, hk => by
   obtain ⟨u, x, h4, h5, h6⟩ := J3 h (hr p) hk
   obtain ⟨us, xs, h1, h2, h3⟩ := yL h hr rs _ h6
   simp only [bN] at h4
   exact ⟨u :: us, x :: xs, by simp only [List.mapM_cons, bN, cj, h4, bX, h1], by simp only [aE]; exact ⟨_, _, rfl, h5, h2⟩, h3⟩
theorem ye (h : aZ g U w) {a : Act} (hr : fA g ρ a.tmps) {fn : Func} {k : List AV -> Prop} (hk : sL C.P ρ U fn.results.toList k) :
 ∃ u xs, (results fn a.tmps).run C.P w = .ok u w /\ az g (sP xs) u /\ k xs := by
 obtain ⟨us, xs, h1, h2, h3⟩ := yL h hr _ k hk
 have e : (results fn a.tmps).run C.P w = .ok (if h : us.toArray.size = 1 then us.toArray[0] else .tuple us.toArray) w := by
  unfold results
  rw [Array.mapM_eq_mapM_toList]
  simp only [bN, Sem.run_map, cj]
  erw [h1]
  rfl
 refine ⟨_, xs, e, ?_, h3⟩
 match xs, us, h2 with
 | [], us, h2 =>
   simp only [aE] at h2; subst h2
   simp [sP, az, aE]
 | [x], us, h2 =>
   simp only [aE] at h2
   obtain ⟨u, _, rfl, h4, rfl⟩ := h2
   simpa [sP] using h4
 | x :: y :: zs, us, h2 =>
   have hl := h2.length
   rw [dif_neg (by simp at hl ⊢; omega)]
   simp only [sP, az]
   exact ⟨us, rfl, h2⟩
theorem yn (args : List AV) (vs : List Value) (n : Nat) (ha : aE g args vs) : fA g (Env.gX args) (vs.toArray ++ Array.replicate n undef) := fun t => by
 simp only [Env.gX, Array.getD_eq_getD_getElem?, sJ, Array.getElem?_append, List.size_toArray, List.getElem?_toArray]
 have hl := ha.length
 by_cases ht : t < vs.length
 · rw [if_pos ht]
   obtain ⟨x, hx⟩ : ∃ x, args[t]? = some x := ⟨args[t]'(by omega), by simp⟩
   obtain ⟨v, hv, hr⟩ := ha.get hx
   rw [hx, hv]; exact hr
 · rw [if_neg ht, mN (by omega)]
   simp only [Option.getD_none]
   have : ((Array.replicate n undef)[t - vs.length]?).getD undef = undef := by
    rw [Array.getElem?_replicate]; split <;> rfl
   rw [this]; exact sc
theorem oy {fn : Func} {a : Act} {R : cD -> St -> Prop} (g0 : Gh) : ∀ (ms : List Nat) (g : Gh) (w : World) (u : FrameMode), ms.Nodup -> (∀ r ∈ ms, g.res r = true /\ g0.res r = false) -> Gh.Le g0 g -> aZ g U w -> fA g ρ a.tmps ->
 ((u = .returning /\ sL C.P ρ U fn.results.toList fun vs => ∃ x ae, lK (sP vs) U x ae /\ R (.ret x) ae) \/ (∃ x v, u = .panicking [{ v, recovered := false }] /\ az g x v /\ R (.panic x) U)) ->
 LeavesInM Fence.wide 0 C.P fn a.tmps (mv g0 R) (ms.map Cz) u w
 | [], g, w, u, _, _, hle, hs, hr, h => by
   simp only [hC, LeavesInM]
   rcases h with ⟨rfl, h⟩ | ⟨x, v, rfl, hx, h⟩
   · obtain ⟨v, xs, fK, hv, x, ae, ht, hR⟩ := ye hs hr h
     obtain ⟨g', Hx, dL, hx⟩ := ht g w v hs hv
     exact ⟨v, fK, g', ae, x, hle.trans Hx, dL, hx, hR⟩
   · exact ⟨g, U, x, v, rfl, hle, hs, hx, h⟩
 | r :: ms, g, w, u, hnd, wb, hle, hs, hr, h => by
   simp only [dJ, LeavesInM]
   refine ⟨by rcases h with ⟨rfl, _⟩ | ⟨_, _, rfl, _⟩ <;> simp, .inl ⟨r, { w with heap := w.heap.setIfInBounds r (Obj.deferred none) }, rfl, ?_, ?_⟩⟩
   · obtain ⟨_, hh⟩ := hs.res r (wb r (by simp)).1
     simp [Instr.takeDeferred, getObj, setObj, bN, Sem.run, hh, Result.andThen]
   · have Zz : Gh.qE g { g with res := fun x => if x = r then false else g.res x } := ⟨fun _ _ h => h, fun _ _ _ h => h, fun _ _ h => h⟩
     refine oy g0 ms { g with res := fun x => if x = r then false else g.res x } _ u (List.nodup_cons.1 hnd).2 (fun q hq => ?_) ?_ (hs.shut (wb r (by simp)).1) (fun t => (hr t).ee Zz) ?_
     · refine ⟨?_, (wb q (by simp [hq])).2⟩
       show (if q = r then false else g.res q) = true
       rw [if_neg (fun e : q = r => by subst e; exact (List.nodup_cons.1 hnd).1 hq)]
       exact (wb q (by simp [hq])).1
     · refine ⟨hle.base, hle.w0, hle.place, hle.bQ, hle.bL, fun q hq => ?_, hle.wi, hle.tm⟩
       show (if q = r then false else g.res q) = true
       have bW : q ≠ r := fun e => by subst e; rw [(wb q (by simp)).2] at hq; cases hq
       rw [if_neg bW]
       exact hle.res q hq
     · rcases h with h | ⟨x, v, h1, h2, h3⟩
       · exact .inl h
       · exact .inr ⟨x, v, h1, h2.ee Zz, h3⟩
theorem af.GH {f : FuncId} {fn : Func} {c : Code} {args : List AV} {R : cD -> St -> Prop} (hf : C.P.funcs[f]? = some fn) (hb : fn.body = some c) (hlen : args.length <= fn.ntmps)
 (h : bw C fn.ntmps .fn c (aa9 C.P fn R) (Env.gX args) U) : af C f args U R := by
 intro g w vs hs hG ha
 have hl := ha.length
 refine callsIn_of_wp_marks hf hb trivial ?_
 have AL := yn args vs (fn.ntmps - args.length) ha
 have := h g w { tmps := vs.toArray ++ Array.replicate (fn.ntmps - vs.toArray.size) undef, defers := [] } none hs hG (by
  have e : vs.toArray.size = args.length := by simpa using hl
  rw [e]; exact AL) (by simp; omega) trivial
 refine wpIn_mono this ?_
 rintro e a w' ⟨k1, g', ae, dH, ms, k2, k3, k4, k5, k6, k7⟩
 simp only [iy] at k2
 cases e with
 | normal =>
   show LeavesInM _ _ _ _ _ _ a.defers _ _
   rw [k2]
   exact oy g ms g' w' _ k3.nodup k3.res k4 k5 k6 (.inl ⟨rfl, k7⟩)
 | ret =>
   show LeavesInM _ _ _ _ _ _ a.defers _ _
   rw [k2]
   exact oy g ms g' w' _ k3.nodup k3.res k4 k5 k6 (.inl ⟨rfl, k7⟩)
 | panic ch =>
   obtain ⟨x, v, rfl, hx, hR⟩ := k7
   show LeavesInM _ _ _ _ _ _ a.defers _ _
   rw [k2]
   exact oy g ms g' w' _ k3.nodup k3.res k4 k5 k6 (.inr ⟨x, v, rfl, hx, hR⟩)
 | exit id => exact k7.elim
 | goto l => exact k7.elim
 | outgrown => exact k7.elim
def Pure (C : cw) (f : FuncId) (args : List AV) (x : AV) : Prop := ∀ U R, R (.ret x) U -> af C f args U R
end
end Go.Rip
namespace Go.Rip
open Go.RowKit
section
variable {C : cw} {g : Gh} {U : St} {w : World} {nt : Nat} {ro : Ro} {Q : Ex -> Env -> St -> Prop} {ρ : Env}
def Wj (o : Nat) (Q : Ex -> Env -> St -> Prop) (ρ : Env) : cD -> St -> Prop
 | .ret _, ae => ∃ L, ae.loop o = some L /\ L.state ≠ .busy /\ (match L.eT with
   | none => Q .normal ρ (ae.del o)
   | some .ret => Q .ret ρ (ae.del o)
   | some (.exit id) => Q (.exit id) ρ (ae.del o)
   | _ => False)
 | .panic x, ae => Q (.panic x) ρ ae
theorem aZ.N6 (h : aZ g U w) {o : Nat} {L : fw} {p : Place} (ho : U.loop o = some L) (hp : g.place o = some p) (x : Loop) :
 aZ g (U.del o) { w with heap := w.heap.setIfInBounds p.aH (.loop x) } := by
 obtain ⟨p', k1, k2, fn, tmps, defers, k3, _⟩ := h.live o _ (St.kI.1 ho)
 rw [hp] at k1; cases k1
 refine (h.weaken (St.qI U o)).change p.aH k2 (Gh.Le.refl g) rfl rfl ⟨rfl, rfl, rfl, by simp⟩ (fun k hk _ => Array.getElem?_setIfInBounds_ne (Ne.symm hk)) (fun _ _ _ => rfl) (fun _ _ => rfl) (fun q u hu => ?_) (fun es c hr => ?_) (fun b' x' p' h1 h2 e => ?_) (h.rj (St.kI.1 ho) hp)
 · have := (h.bQ _ _ _ hu).1; simp [World.cell?, k3] at this
 · have := (h.bL _ _ _ hr).1; rw [k3] at this; cases this
 · simp only [St.del] at h1
   split at h1
   · cases h1
   · rename_i ne; exact ne (h.apart _ _ _ _ _ _ h1 (St.kI.1 ho) h2 hp e)
theorem aZ.pa (h : aZ g U w) {o : Nat} {L L' : fw} {p : Place} (ho : U.loop o = some L) (hp : g.place o = some p) {fn : FuncId} {tmps : Array Value} {defers : Nat}
 (hn : tmps.size = L'.nt) (hr : ∀ t, az g (L'.ρ t) (tmps.getD t undef)) :
 aZ g (U.set o (.loop L')) { w with heap := w.heap.setIfInBounds p.aH (.loop { state := L'.state, pending := L'.eT, fn, tmps, params := L'.params, assign := L'.assign, body := L'.body, defers }) } := by
 obtain ⟨p', k1, k2, Qd, CE, wX, k3, _⟩ := h.live o _ (St.kI.1 ho)
 rw [hp] at k1; cases k1
 have aJ := (jb.1 k3).1
 refine h.rewrite (St.kI.1 ho) hp ⟨rfl, rfl, rfl, by simp⟩ (fun k hk _ => Array.getElem?_setIfInBounds_ne (Ne.symm hk)) (fun q => ?_) ?_ ⟨fn, tmps, defers, by simp [aJ], hn, hr⟩
 · cases e : g.bQ p.aH q with
   | none => rfl
   | some u => have := (h.bQ _ _ _ e).1; simp [World.cell?, k3] at this
 · cases e : g.bL p.aH with
   | none => rfl
   | some u => have := (h.bL _ _ _ e).1; rw [k3] at this; cases this
theorem bw.rangeFunc (tag : Nat) {f : Operand} {ps : Array Tmp} {assign body : Code} {iq : FuncId} {first cap : List AV} (hf : ρ.ev C f = .func (.func iq) first cap) (qN : eg C.P iq = true)
 (h : ∀ o, U.cY o -> af C iq (first ++ [.pN o] ++ cap) (U.new o (.loop ⟨ρ.get, nt, ps, assign, body, .ready, none, tag⟩)) (Wj o Q ρ)) : bw C nt .fn (.rangeFunc f ps assign body) Q ρ U := by
 intro g w a fr hs hG hr hn qP
 cases fr with
 | some l => exact qP.elim
 | none =>
 have U4 := qK hG hr f
 rw [hf] at U4
 simp only [az] at U4
 obtain ⟨fs, cs, hval, Jq, qM⟩ := U4
 refine wpIn_rangeFunc fun fn _ => ?_
 obtain ⟨Dt, rM⟩ := hs.Sd
 have hrE := hr.mono Dt
 obtain ⟨o, g2, f1, f2, f3, f4⟩ := rM.qZ (.loop { state := .ready, pending := none, fn := fn, tmps := a.tmps, params := ps, assign, body, defers := w.heap.size }) 0 0 (.loop ⟨ρ.get, nt, ps, assign, body, .ready, none, tag⟩)
  fun g' hle _ _ => ⟨fn, a.tmps, w.heap.size, heap_alloc_new _ _, hn, fun t => (hrE t).mono hle⟩
 have qS := Dt.trans f2
 obtain ⟨Db, hfn, Vq, ZE⟩ : ∃ Db, C.P.funcs[iq]? = some Db /\ Db.body.isNone = false /\ (Db.name == "runtime.NumGoroutine") = false := by
  unfold eg at qN
  split at qN
  · rename_i Db hfn
    simp only [bR, Bool.not_eq_true'] at qN
    exact ⟨Db, hfn, by cases hb : Db.body <;> simp_all, qN.2⟩
  · cases qN
 refine ⟨w.heap.size + 1, [{ target := .collected w.heap.size, args := #[] }], ((w.alloc (.deferred (some []))).alloc (.loop { state := .ready, pending := none, fn := fn, tmps := a.tmps, params := ps, assign, body, defers := w.heap.size })),
  { target := .fn (.func iq) cs.toArray, args := fs.toArray ++ #[.func (.yield (w.heap.size + 1)) #[] #[]] }, ((w.alloc (.deferred (some []))).alloc (.loop { state := .ready, pending := none, fn := fn, tmps := a.tmps, params := ps, assign, body, defers := w.heap.size })), iq, (fs.toArray ++ #[.func (.yield (w.heap.size + 1)) #[] #[]]) ++ cs.toArray, ((w.alloc (.deferred (some []))).alloc (.loop { state := .ready, pending := none, fn := fn, tmps := a.tmps, params := ps, assign, body, defers := w.heap.size })), ?_, ?_, fun _ _ => trivial, ?_, fun hd => by simp [FW, Fence.wide] at hd, ?_⟩
 · simp only [Instr.enterLoop, FW, bN, run_newObj, cj, bX]
   rw [Array.size_push]
   rfl
 · simp only [resolve, rangeCall, List.map_toArray, dJ, hC]
   rw [hval]
   simp only [Deferred.ofValue, cj]
   rfl
 · simp only [invoke, callFunc, bN, cj, bX, run_program, hfn, ZE, Vq, bo, if_false, eu]
 · have hc := h o f1 g2 _ (fs ++ [Value.func (.yield (w.heap.size + 1)) #[] #[]] ++ cs) f4 (hG.mono qS) (((Jq.mono qS).append (by
    simp only [aE]
    exact ⟨_, _, rfl, by simp only [az]; exact ⟨_, f3, by simp⟩, rfl⟩)).append (qM.mono qS))
   have e : (fs ++ [Value.func (.yield (w.heap.size + 1)) #[] #[]] ++ cs).toArray = fs.toArray ++ #[Value.func (.yield (w.heap.size + 1)) #[] #[]] ++ cs.toArray := by simp
   rw [e] at hc
   have Gg : CallsIn (FW none) 0 C.P iq _ _ _ := hc
   refine Gg.mono ?_
   rintro e w3 hp
   have Jx : ∀ g3, Gh.Le g2 g3 -> mj false g g3 [w.heap.size] := fun g3 hl => ⟨fun h => (by cases h), by simp, fun r hr => by
    simp only [mP] at hr; subst hr
    exact ⟨hl.res _ (f2.res _ (by simp)), hs.A6 (cX _)⟩⟩
   cases e with
   | returned v =>
     obtain ⟨g3, cJ, x, h1, h2, h3, L, h4, h5, h6⟩ := hp
     obtain ⟨p, q1, q2, Qd, CE, wX, q3, q4, q5⟩ := h2.live o _ (St.kI.1 h4)
     have oS : g3.place o = some ⟨w.heap.size + 1, 0, 0⟩ := h1.place _ _ (by rw [f3]; simp)
     rw [oS] at q1; cases q1
     have wa : (getObj (w.heap.size + 1)).run C.P w3 = .ok (.loop { state := L.state, pending := L.eT, fn := Qd, tmps := CE, params := L.params, assign := L.assign, body := L.body, defers := wX }) w3 := by simp [getObj, Sem.run, q3]
     have JA : ∀ x, (setObj (w.heap.size + 1) x).run C.P w3 = .ok () { w3 with heap := w3.heap.setIfInBounds (w.heap.size + 1) x } := fun x => by simp [setObj, Sem.run, q3]
     have Yb : (L.state == LoopState.busy) = false := by
      cases hL : L.state <;> first
       | rfl
       | exact absurd hL h5
     have ui : (Instr.endLoop (w.heap.size + 1)).run C.P w3 = .ok L.eT { w3 with heap := w3.heap.setIfInBounds (w.heap.size + 1) (.loop { state := .exhausted, pending := L.eT, fn := Qd, tmps := CE, params := L.params, assign := L.assign, body := L.body, defers := wX }) } := by
      simp only [Instr.endLoop, Instr.getLoop, bN, wa, bX, cj, Yb, bo, if_false, eu, JA]
     have Vz := h2.N6 h4 oS { state := .exhausted, pending := L.eT, fn := Qd, tmps := CE, params := L.params, assign := L.assign, body := L.body, defers := wX }
     have post : ∀ ex, C9 g3 Q ρ (cJ.del o) ex -> oE g nt false a.defers Q ex { a with defers := [{ target := .collected w.heap.size, args := #[] }] ++ a.defers } _ := fun ex hq =>
      ⟨hn, g3, cJ.del o, ρ, [w.heap.size], rfl, Jx g3 h1, qS.trans h1, Vz, hr.mono (qS.trans h1), hq⟩
     refine ⟨L.eT, _, ui, ?_⟩
     generalize L.eT = eT at h6 post ⊢
     cases eT with
     | none => exact post .normal h6
     | some c =>
       cases c <;> first
        | exact h6.elim
        | exact wpIn_exit (post (.exit _) h6)
        | exact wpIn_ret (post .ret h6)
   | panicked ch =>
     obtain ⟨g3, cJ, x, v, rfl, h1, h2, h3, h4⟩ := hp
     exact ⟨hn, g3, cJ, ρ, [w.heap.size], rfl, Jx g3 h1, qS.trans h1, h2, hr.mono (qS.trans h1), x, v, rfl, h3, h4⟩
   | outgrown => exact hp.elim
def uJ (ρ : Nat -> AV) : List Tmp -> List AV -> Nat -> AV
 | t :: ts, v :: vs => uJ (fun x => if x = t then v else ρ x) ts vs
 | _, _ => ρ
theorem Ek {ρ : Nat -> AV} {tmps : Array Value} : ∀ (ps : List Tmp) (args : List AV) (vs : List Value) (ρ : Nat -> AV) (tmps : Array Value), (∀ t, az g (ρ t) (tmps.getD t undef)) -> (∀ t ∈ ps, t < tmps.size) -> aE g args vs ->
 ((ps.zip vs).foldl (fun (tmps : Array Value) (p : Tmp × Value) => tmps.setIfInBounds p.1 p.2) tmps).size = tmps.size /\ ∀ t, az g (uJ ρ ps args t) (((ps.zip vs).foldl (fun (tmps : Array Value) (p : Tmp × Value) => tmps.setIfInBounds p.1 p.2) tmps).getD t undef)
 | [], args, vs, ρ, tmps, h, _, _ => by simpa [uJ] using h
 | t :: ts, [], vs, ρ, tmps, h, _, ha => by
   simp only [aE] at ha; subst ha
   simpa [uJ] using h
 | t :: ts, x :: args, vs, ρ, tmps, h, hl, ha => by
   simp only [aE] at ha
   obtain ⟨v, vs, rfl, hx, ha⟩ := ha
   simp only [List.zip_cons_cons, List.foldl_cons, uJ]
   have h1 : ∀ t', az g ((fun y => if y = t then x else ρ y) t') ((tmps.setIfInBounds t v).getD t' undef) := (fA.put (g := g) (ρ := ⟨ρ⟩) h (hl t (by simp)) hx)
   obtain ⟨h2, h3⟩ := Ek (ρ := ρ) (tmps := tmps) ts args vs _ (tmps.setIfInBounds t v) h1 (fun t' tk => by simpa using hl t' (by simp [tk])) ha
   exact ⟨by rw [h2]; simp, h3⟩
def Wn (o : Nat) (R : cD -> St -> Prop) : Ex -> Env -> St -> Prop
 | .normal, _, U => ∃ L, U.loop o = some L /\ R (.ret (.bool true)) (U.set o (.loop { L with state := .ready, eT := none }))
 | .ret, _, U => ∃ L, U.loop o = some L /\ R (.ret (.bool false)) (U.set o (.loop { L with state := .done, eT := some .ret }))
 | .exit id, _, U => ∃ L, U.loop o = some L /\ R (.ret (.bool false)) (U.set o (.loop { L with state := .done, eT := some (.exit id) }))
 | .panic _, _, _ => False
def RM (C : cw) (o : Nat) (body : Code) (nt : Nat) (R : cD -> St -> Prop) : Ex -> Env -> St -> Prop
 | .normal, ρ, U => ∃ L, U.loop o = some L /\ L.state = .ready /\ bw C nt (.round o) body (Wn o R) ρ (U.set o (.loop { L with state := .busy }))
 | _, _, _ => False
theorem jW.Ee {o : Nat} {args : List AV} {R : cD -> St -> Prop} {L : fw} (hL : U.loop o = some L) (hargs : args.length = L.params.size) (Qw : ∀ t ∈ L.params.toList, t < L.nt)
 (h : bw C L.nt (.round o) L.assign (RM C o L.body L.nt R) ⟨uJ L.ρ L.params.toList args⟩ U) : jW C o args U R := by
 intro g w vs x hs hG ha hx
 obtain ⟨p, k1, k2, fn, tmps, defers, k3, k4, k5⟩ := hs.live o _ (St.kI.1 hL)
 rw [hx] at k1; cases k1
 have wa : (getObj x.aH).run C.P w = .ok (.loop { state := L.state, pending := L.eT, fn, tmps, params := L.params, assign := L.assign, body := L.body, defers }) w := by simp [getObj, Sem.run, k3]
 have dD : vs.length = L.params.size := by rw [ha.length, hargs]
 obtain ⟨z1, z2⟩ := Ek (g := g) (ρ := L.ρ) (tmps := tmps) L.params.toList args vs L.ρ tmps k5 (fun t ht => by rw [k4]; exact Qw t ht) ha
 have X4 : (L.params.zip vs.toArray).foldl (fun (tmps : Array Value) (p : Tmp × Value) => tmps.setIfInBounds p.1 p.2) tmps = (L.params.toList.zip vs).foldl (fun (tmps : Array Value) (p : Tmp × Value) => tmps.setIfInBounds p.1 p.2) tmps := by
  rw [<- Array.foldl_toList]; congr 1; simp
 refine ⟨fn, (L.params.toList.zip vs).foldl (fun (tmps : Array Value) (p : Tmp × Value) => tmps.setIfInBounds p.1 p.2) tmps, L.assign, L.body, ?_, ?_⟩
 · simp only [Instr.yield, Instr.getLoop, bN, wa, bX, cj, List.size_toArray, dD, ne_eq, not_true_eq_false, if_false, eu]
   rw [<- X4]
 · refine roundIn_of_wpIn trivial ?_
   have h1 := h g w { tmps := (L.params.toList.zip vs).foldl (fun (tmps : Array Value) (p : Tmp × Value) => tmps.setIfInBounds p.1 p.2) tmps, defers := [] } (some x.aH) hs hG z2 (by rw [<- k4]; exact z1) ⟨x, hx, rfl⟩
   have Di : L.assign.wpIn (Fence.wide.inRound x.aH) 0 C.P _ _ _ := h1
   refine wpIn_mono Di ?_
   rintro e a1 w1 ⟨q1, g1, bJ, ρ1, ms, q2, q3, q4, q5, q6, q7⟩
   cases e with
   | normal =>
     obtain ⟨L1, r1, r2, r3⟩ := q7
     obtain ⟨p, k1, k2, fn, tmps, defers, k3, k4, k5⟩ := q5.live o _ (St.kI.1 r1)
     rw [q4.place _ _ hx] at k1; cases k1
     have wa : (getObj x.aH).run C.P w1 = .ok (.loop { state := L1.state, pending := L1.eT, fn, tmps, params := L1.params, assign := L1.assign, body := L1.body, defers }) w1 := by simp [getObj, Sem.run, k3]
     have JA : ∀ y, (setObj x.aH y).run C.P w1 = .ok () { w1 with heap := w1.heap.setIfInBounds x.aH y } := fun y => by simp [setObj, Sem.run, k3]
     have BG := q5.pa (L' := { L1 with state := .busy }) (fn := fn) (defers := defers) r1 (q4.place _ _ hx) k4 k5
     refine ⟨_, by simp only [Instr.beginRound, Instr.getLoop, bN, wa, bX, cj, JA, r2]; rfl, ?_⟩
     have h2 := r3 g1 _ a1 (some x.aH) BG (hG.mono q4) q6 q1 ⟨x, q4.place _ _ hx, rfl⟩
     have Y7 : L.body.wpIn (Fence.wide.inRound x.aH) 0 C.P _ _ _ := h2
     refine wpIn_mono Y7 ?_
     rintro e a2 w2 ⟨QM, g2, bP, pO, D9, Wd, q3', q4', q5', q6', GO⟩
     have hx2 := (q4.trans q4').place _ _ hx
     have fin : ∀ (L2 : fw) (jump : Option Code) (st : LoopState), bP.loop o = some L2 -> (if jump.isNone then LoopState.ready else .done) = st -> R (.ret (.bool jump.isNone)) (bP.set o (.loop { L2 with state := st, eT := jump })) ->
      ∃ v w', (Instr.endRound x.aH jump).run C.P w2 = .ok v w' /\ mv g R (.returned v) w' := fun L2 jump st hl fp hR => by
      obtain ⟨p, k1, k2, fn, tmps, defers, k3, k4, k5⟩ := q5'.live o _ (St.kI.1 hl)
      rw [hx2] at k1; cases k1
      have wa : (getObj x.aH).run C.P w2 = .ok (.loop { state := L2.state, pending := L2.eT, fn, tmps, params := L2.params, assign := L2.assign, body := L2.body, defers }) w2 := by simp [getObj, Sem.run, k3]
      have JA : ∀ y, (setObj x.aH y).run C.P w2 = .ok () { w2 with heap := w2.heap.setIfInBounds x.aH y } := fun y => by simp [setObj, Sem.run, k3]
      have Vz := q5'.pa (L' := { L2 with state := st, eT := jump }) (fn := fn) (defers := defers) hl hx2 k4 k5
      refine ⟨.bool jump.isNone, _, by simp only [Instr.endRound, Instr.getLoop, bN, wa, bX, cj, JA, fp], g2, _, .bool jump.isNone, q4.trans q4', Vz, by simp only [az], hR⟩
     cases e with
     | normal => obtain ⟨L2, hl, hR⟩ := GO; exact fin L2 none .ready hl rfl hR
     | ret => obtain ⟨L2, hl, hR⟩ := GO; exact fin L2 (some .ret) .done hl rfl hR
     | exit id => obtain ⟨L2, hl, hR⟩ := GO; exact fin L2 (some (.exit id)) .done hl rfl hR
     | panic ch => obtain ⟨x, v, _, _, hf⟩ := GO; exact hf.elim
     | goto l => exact GO.elim
     | outgrown => exact GO.elim
   | panic ch => obtain ⟨x, v, _, _, hf⟩ := q7; exact hf.elim
   | ret => exact q7.elim
   | exit id => exact q7.elim
   | goto l => exact q7.elim
   | outgrown => exact q7.elim
end
end Go.Rip
namespace Go.Rip
open Go.RowKit
section
variable {C : cw} {g : Gh} {U ae : St} {w : World} {nt : Nat} {nm : Bool} {ro : Ro} {fr : Option Nat} {Q : Ex -> Env -> St -> Prop} {ρ dH : Env} {mu : Bool}
theorem qY {l : List Operand} (h : ∀ x ∈ l, ρ.ev C x = dH.ev C x) : l.map (ρ.ev C) = l.map (dH.ev C) := List.map_congr_left h
theorem va {parts : Array (Nat × Operand)} (h : ∀ x ∈ (parts.toList.map (·.2)).toArray, ρ.ev C x = dH.ev C x) : jY C ρ parts = jY C dH parts := by
 unfold jY
 apply List.map_congr_left
 intro p hp
 rw [h p.2 (by simp; exact ⟨p.1, by simpa using hp⟩)]
theorem Ko (o : Op) (h : ∀ x ∈ o.operands, ρ.ev C x = dH.ev C x) : gY C mu o ρ U = gY C mu o dH U := by
 cases o with
 | call c =>
   obtain ⟨callee, ⟨args⟩, ⟨Rr⟩⟩ := c
   simp only [gY, wW]
   have ha : args.map (ρ.ev C) = args.map (dH.ev C) := qY fun x hx => h x (by simp only [Op.operands, Call.operands]; rw [Array.mem_append]; exact .inr (by simpa using hx))
   cases callee with
   | value f =>
     show gp C.P (ρ.ev C f) (args.map (ρ.ev C)) = gp C.P (dH.ev C f) (args.map (dH.ev C))
     rw [ha, h f (by simp [Op.operands, Call.operands])]
   | invoke r m => rfl
   | builtin b =>
     have hm : ∀ x ∈ args, ρ.ev C x = dH.ev C x := fun x hx => h x (by simp only [Op.operands, Call.operands]; rw [Array.mem_append]; exact .inr (by simpa using hx))
     split <;> simp_all
 | build t parts => simp only [gY]; rw [va h]
 | buildSlice t n parts => simp only [gY]; rw [va h]
 | makeFunc fn first cap =>
   simp only [gY]
   rw [qY (l := first.toList) fun x hx => h x (by simp [Op.operands]; exact .inl (by simpa using hx)), qY (l := cap.toList) fun x hx => h x (by simp [Op.operands]; exact .inr (by simpa using hx))]
 | slice t x lo hi m =>
   cases m with
   | some _ => rfl
   | none =>
     simp only [gY]
     have h1 := h x (by simp [Op.operands])
     have h2 : lo.map (ρ.ev C) = lo.map (dH.ev C) := by
      cases lo with
      | none => rfl
      | some y => simp only [Option.map_some]; rw [h y (by simp [Op.operands])]
     have h3 : hi.map (ρ.ev C) = hi.map (dH.ev C) := by
      cases hi with
      | none => rfl
      | some y => simp only [Option.map_some]; rw [h y (by simp [Op.operands])]
     rw [h1, h2, h3]
 | makeMap t r => cases r <;> rfl
 | next i b => cases b <;> simp_all [gY, Op.operands]
 | _ => simp_all [gY, Op.operands]
def cB : AV -> List Nat
 | .box b _ => [b]
 | .ms b _ _ _ _ => [b]
 | .mp m => [m]
 | .it o => [o]
 | .vec _ (.own τ) _ => [τ]
 | _ => []
theorem RQ {b : Nat} (h : ae.live b = U.live b) : ae.box b = U.box b := by simp only [St.box, h]
theorem Fg {p : AV} (h : ∀ b ∈ cB p, ae.live b = U.live b) : jX ae p = jX U p := by
 cases p <;> simp only [jX]
 rw [RQ (h _ (by simp [cB]))]
def quiet : Op -> Bool
 | .move _ | .assign _ | .pick .. | .load .. | .build .. | .buildSlice .. | .fieldAddr .. | .field .. | .indexAddr .. | .index .. | .binOp .. | .unOp .. | .convert .. | .nilCheck _ | .lookup .. | .extract .. | .makeInterface .. | .makeFunc ..
 | .slice .. => true
 | .call c => match c.callee with
   | .value _ => true
   | .builtin .len | .builtin .min | .builtin .max => true
   | _ => false
 | _ => false
def mw : Op -> Bool
 | .load .. | .lookup .. => true
 | _ => false
theorem Sv (o : Op) (hq : quiet o = true) (h : mw o = true -> ∀ x ∈ o.operands, ∀ b ∈ cB (ρ.ev C x), ae.live b = U.live b) : gY C mu o ρ ae = gY C mu o ρ U := by
 cases o with
 | call c =>
   obtain ⟨callee, ⟨args⟩, ⟨Rr⟩⟩ := c
   simp only [gY, wW]
   cases callee with
   | value f => rfl
   | invoke r m => rfl
   | builtin b =>
     cases b <;> simp only [quiet, bo] at hq
     all_goals (split <;> first
      | rfl
      | (simp only [D3]; done)
      | contradiction
      | simp_all)
 | load t a =>
   simp only [gY, rR]
   rw [Fg (h rfl a (by simp [Op.operands]))]
 | lookup t m k ok =>
   have := h rfl m (by simp [Op.operands])
   simp only [gY, tw]
   generalize ρ.ev C m = y at this ⊢
   cases y <;> simp_all [cB, St.mp, kD]
 | slice t x lo hi m => cases m <;> rfl
 | _ => first | rfl | simp [quiet] at hq
theorem au.wp_mono {K K' : AV -> St -> Prop} {Kp : AV -> St -> Prop} (hk : ∀ v U, K v U -> K' v U) : ∀ (r : au) {U : St}, r.wp C U K Kp -> r.wp C U K' Kp
 | .val _, _, h => hk _ _ h
 | .jQ _ _ _, _, h => hk _ _ h
 | .new _ _ _, _, h => fun b hb => hk _ _ (h b hb)
 | .jz _ _, _, h => fun p hp => hk _ _ (h p hp)
 | .enter _ _, _, h => af.mono h fun r U hr => by cases r <;> first | exact hk _ _ hr | exact hr
 | .yield _ _, _, h => jW.mono h fun r U hr => by cases r <;> first | exact hk _ _ hr | exact hr
 | .panic _, _, h => h
 | @au.cond _ _ r, _, h => ⟨h.1, au.wp_mono hk r h.2⟩
 | .bad, _, h => h
theorem F7 {x : Operand} {dst : Option Tmp} {v : AV} (h : ∀ d, dst = some d -> x ≠ .tmp d) : (ρ.ep dst v).ev C x = ρ.ev C x := by
 cases dst with
 | none => rfl
 | some d =>
   cases x <;> simp only [Env.ep, Env.put, Env.ev]
   rename_i t
   rw [if_neg (fun e => h d rfl (by rw [e]))]
theorem GK (ops : Array Oper) (o : Oper) {dst : Option Tmp} {v : AV} (h : ∀ d, dst = some d -> d ∉ o.looksAt ops) : gY C mu o.op (ρ.ep dst v) U = gY C mu o.op ρ U :=
 Ko o.op fun x hx => F7 fun d hd VH => h d hd (by
  subst VH
  exact List.mem_append_left _ (List.mem_filterMap.2 ⟨.tmp d, by simpa using hx, rfl⟩))
theorem Bx (ops : Array Oper) (o : Oper) {dst : Option Tmp} {v : AV} (h : ∀ d, dst = some d -> d ∉ o.looksAt ops) : gd ops (ρ.ep dst v) o.guard = gd ops ρ o.guard := by
 cases dst with
 | none => rfl
 | some d =>
   have hd := h d rfl
   unfold gd
   cases hg : o.guard with
   | none => rfl
   | some jw =>
     obtain ⟨j, want⟩ := jw
     simp only
     cases hb : (ops[j]?).bind (·.dst) with
     | none => rfl
     | some t =>
       have bW : t ≠ d := fun e => by
        subst e
        apply hd
        unfold Oper.looksAt
        rw [hg]
        simp only [hb, Option.toList_some, eZ, mP, or_true]
       simp only [Env.ep, Env.put, if_neg bW]
theorem Kw {d d' : Option Tmp} {v v' : AV} (h : ∀ t, d = some t -> d' ≠ some t) : (ρ.ep d v).ep d' v' = (ρ.ep d' v').ep d v := by
 cases d <;> cases d' <;> simp only [Env.ep]
 rename_i a b
 have bW : b ≠ a := fun e => h a rfl (by rw [e])
 simp only [Env.put, Env.mk.injEq]
 funext t
 by_cases h1 : t = b
 · subst h1; rw [if_pos rfl, if_neg bW, if_pos rfl]
 · rw [if_neg h1]
   by_cases h2 : t = a
   · rw [if_pos h2, if_pos h2]
   · rw [if_neg h2, if_neg h2, if_neg h1]
def nE (mu : List Nat) (o : Oper) : Bool := match o.dst with | some d => mu.contains d | none => false
def mz (C : cw) (mu : List Nat) (ops : Array Oper) (I : St -> Prop) (i : Nat) (K : Env -> St -> Prop) (Kp : AV -> St -> Prop) (ρ : Env) (U : St) : Prop :=
 match ops[i]? with
 | none => K ρ U
 | some o => aq (gd ops ρ o.guard) ((gY C (nE mu o) o.op ρ U).wp C U (fun v ae => I ae /\ K (ρ.ep o.dst v) ae) Kp) (K (ρ.ep o.dst (.aR [])) U)
def QK (o : Oper) (k : Nat) : Bool := o.after.toList.any fun e => Region.binds .any e && Nat.beq e.on k
def jy (ops : Array Oper) (i : Nat) : Bool := match ops[i]? with
 | some o => (List.range ops.size).all fun k => Nat.beq k i || (QK o k || o.after.toList.any fun e => Region.binds .any e && (match ops[e.on]? with | some m => QK m k | none => false))
 | none => false
def Dn (ops : Array Oper) (listed : Array Bool) : Prop := ∀ m o, ops[m]? = some o -> listed.getD m false = true -> ∀ e ∈ o.after, Region.binds .any e = true -> listed.getD e.on false = true
theorem Ef {o : Oper} {k : Nat} (h : QK o k = true) : ∃ e ∈ o.after, Region.binds .any e = true /\ e.on = k := by
 unfold QK at h
 rw [List.any_eq_true] at h
 obtain ⟨e, he, hb⟩ := h
 simp only [bR] at hb
 exact ⟨e, by simpa using he, hb.1, eB hb.2⟩
theorem vB {ops : Array Oper} {i : Nat} {listed : Array Bool} (hD : Dn ops listed) (hr : i ∈ Region.ready .any ops listed) (h : jy ops i = true) (k : Nat) (hk : k < ops.size) (bW : k ≠ i) : listed.getD k false = true := by
 obtain ⟨_, o, ho, bm⟩ := mem_ready.1 hr
 unfold jy at h
 rw [ho] at h
 simp only [ef, List.mem_range, jt] at h
 rcases h k hk with h | h | h
 · exact absurd (eB h) bW
 · obtain ⟨e, he, hb, zB⟩ := Ef h
   rw [<- zB]; exact bm e he hb
 · rw [List.any_eq_true] at h
   obtain ⟨e, he, hb⟩ := h
   rw [bR] at hb
   have h1 := bm e (by simpa using he) hb.1
   have h2 := hb.2
   split at h2
   · rename_i m hm
     obtain ⟨e', jP, dm, aaE⟩ := Ef h2
     rw [<- aaE]; exact hD _ m hm h1 e' jP dm
   · cases h2
theorem Dn.set {ops : Array Oper} {listed : Array Bool} (hD : Dn ops listed) {i : Nat} (hr : i ∈ Region.ready .any ops listed) : Dn ops (listed.setIfInBounds i true) := by
 intro m o ho hl e he hb
 obtain ⟨_, oi, Dz, bm⟩ := mem_ready.1 hr
 by_cases ZB : i = m
 · subst ZB
   rw [Dz] at ho; cases ho
   exact getD_set_true (bm e he hb)
 · rw [getD_set_ne false ZB] at hl
   exact getD_set_true (hD m o ho hl e he hb)
theorem Dn.none (ops : Array Oper) (n : Nat) : Dn ops (Array.replicate n false) := by
 intro m o ho hl
 rw [Array.getD_eq_getD_getElem?, Array.getElem?_replicate] at hl
 split at hl <;> simp at hl
def Ix (ops : Array Oper) (I : St -> Prop) (i : Nat) (U : St) : Prop := jy ops i = true \/ I U
def mF (C : cw) (mu : List Nat) (ops : Array Oper) (I : St -> Prop) (K : Env -> St -> Prop) (Kp : AV -> St -> Prop) : Nat -> Array Bool -> Env -> St -> Prop
 | 0, listed, ρ, U => Region.ready .any ops listed = [] /\ K ρ U
 | n + 1, listed, ρ, U => (Region.ready .any ops listed = [] -> K ρ U) /\ ∀ i ∈ Region.ready .any ops listed, mz C mu ops (Ix ops I i) i (mF C mu ops I K Kp n (listed.setIfInBounds i true)) Kp ρ U
theorem G3 {mu : List Nat} {ops : Array Oper} {I : St -> Prop} (cF : kL nt ops = true) (g0 : Gh) : ∀ (fuel t : Nat) (listed : Array Bool) (g : Gh) (U : St) (w : World) (ρ : Env) (a : Act) (ds : List Deferred), Gh.Le g0 g -> aZ g U w -> fU C g -> fA g ρ a.tmps -> a.tmps.size = nt -> a.defers = ds ->
 mF C mu ops I (KQ Q) (vy Q) fuel listed ρ U -> wpOpsIn (FW fr) 0 C.P ops (oE g0 nt nm ds Q) (Region.linearise.go .any ops fuel t listed []) a w := by
 intro fuel
 induction fuel with
 | zero =>
   intro t listed g U w ρ a ds h0 hs hG hr hn hd h
   simp only [Region.linearise.go, List.reverse_nil, wpOpsIn]
   exact ⟨hn, g, U, ρ, [], by simpa using hd, jJ _ _ _, h0, hs, hr, h.2⟩
 | succ fuel ih =>
   intro t listed g U w ρ a ds h0 hs hG hr hn hd h
   obtain ⟨h1, h2⟩ := h
   simp only [Region.linearise.go]
   change wpOpsIn (FW fr) 0 C.P ops (oE g0 nt nm ds Q) (match (Region.ready .any ops listed)[t % (Region.ready .any ops listed).length]? with
    | some i => Region.linearise.go .any ops fuel (t / (Region.ready .any ops listed).length) (listed.setIfInBounds i true) [i]
    | none => [].reverse) a w
   cases hi : (Region.ready .any ops listed)[t % (Region.ready .any ops listed).length]? with
   | none =>
     have AN : Region.ready .any ops listed = [] := by
      cases hr : Region.ready .any ops listed with
      | nil => rfl
      | cons x xs =>
        rw [hr] at hi
        have aJ : t % (x :: xs).length < (x :: xs).length := Nat.mod_lt _ (by simp)
        simp at hi
        simp at aJ
        omega
     simp only [List.reverse_nil, wpOpsIn]
     exact ⟨hn, g, U, ρ, [], by simpa using hd, jJ _ _ _, h0, hs, hr, h1 AN⟩
   | some i =>
     dsimp only
     rw [linearise_go_acc, List.reverse_singleton, List.singleton_append]
     simp only [wpOpsIn]
     have fp := h2 i (fO hi)
     unfold mz at fp
     cases ho : ops[i]? with
     | none =>
       rw [ho] at fp
       exact ih _ _ g U w ρ a ds h0 hs hG hr hn hd fp
     | some o =>
       rw [ho] at fp
       dsimp only at fp ⊢
       have kF : o ∈ ops.toList := fO (l := ops.toList) (i := i) (a := o) (by rw [jc]; exact ho)
       have DB : yF nt o = true := by
        unfold kL at cF
        rw [ef] at cF
        exact cF o kF
       have Oy : ∀ d, o.dst = some d -> d < a.tmps.size := fun d p4 => by
        simp only [yF, p4, bR, c7] at DB
        rw [hn]; exact DB.1
       have go : ∀ g' ae w' x v, Gh.Le g g' -> aZ g' ae w' -> az g' x v -> mF C mu ops I (KQ Q) (vy Q) fuel (listed.setIfInBounds i true) (ρ.ep o.dst x) ae -> wpOpsIn (FW fr) 0 C.P ops (oE g0 nt nm ds Q) (Region.linearise.go .any ops fuel (t / (Region.ready .any ops listed).length) (listed.setIfInBounds i true) []) (a.put o.dst v) w' := fun g' ae w' x v hle dL hx hk =>
        ih _ _ g' ae w' (ρ.ep o.dst x) (a.put o.dst v) ds (h0.trans hle) dL (hG.mono hle) ((hr.mono hle).ep Oy hx) (by rw [(lW a o.dst v).2]; exact hn) (by rw [(lW a o.dst v).1]; exact hd) hk
       cases Jv : gd ops ρ o.guard <;> rw [Jv] at fp <;> simp only [aq] at fp
       rename_i b
       have hw := xJ hr Jv
       cases b
       · rw [if_neg (by rw [hw]; simp)]
         exact ⟨fun _ _ => trivial, go g U w (.aR []) undef (Gh.Le.refl g) hs sc (fp.2 rfl)⟩
       · rw [if_pos hw]
         refine nF DB hs hG hr hn (fp.1 rfl) (fun g' ae w' x v hle dL hx hk => go g' ae w' x v hle dL hx hk.2) ?_ (ds := ds)
         intro g' ae w' x v hle dL hx hk
         exact ⟨hn, g', ae, ρ, [], by simpa using hd, jJ _ _ _, h0.trans hle, dL, hr.mono hle, x, v, rfl, hx, hk ρ⟩
theorem bw.B9 {id : Nat} {ops : Array Oper} (mu : List Nat) (I : St -> Prop) (hm : C.P.follows .mixedOrders = true) (cF : kL nt ops = true) (h : mF C mu ops I (KQ Q) (vy Q) ops.size (Array.replicate ops.size false) ρ U) : bw C nt ro (.region id ops true) Q ρ U := by
 intro g w a fr h1 h2 h3 h4 qP
 refine wpIn_region_draw fun t => ?_
 simp only [Region.schedule, hm, Bool.true_or, if_true, Region.linearise]
 have hs := h1.grow (iU w)
 exact G3 cF g ops.size t _ g U _ ρ a a.defers (Gh.Le.refl g) hs h2 h3 h4 rfl h
def au.yv (C : cw) : au -> AV -> Prop
 | .val u, v => u = v
 | @au.cond p _ r, v => p /\ r.yv C v
 | .enter f args, v => Pure C f args v
 | _, _ => False
theorem au.IB {K : AV -> St -> Prop} {Kp : AV -> St -> Prop} : ∀ (r : au) {v : AV}, r.yv C v -> K v U -> r.wp C U K Kp
 | .val _, _, h, hk => by simp only [au.yv] at h; subst h; exact hk
 | @au.cond _ _ r, _, h, hk => ⟨h.1, au.IB r h.2 hk⟩
 | .enter _ _, _, h, hk => h U _ hk
 | .jQ _ _ _, _, h, _ => h.elim
 | .new _ _ _, _, h, _ => h.elim
 | .jz _ _, _, h, _ => h.elim
 | .yield _ _, _, h, _ => h.elim
 | .panic _, _, h, _ => h.elim
 | .bad, _, h, _ => h.elim
def cU (B : List Nat) (aG U : St) : Prop := ∀ b ∈ B, U.live b = aG.live b
def Still (C : cw) (mu : List Nat) (ops : Array Oper) (B : List Nat) (aG : St) (o : Oper) (ρ : Env) (v : AV) : Prop :=
 (gd ops ρ o.guard = .bool true /\ quiet o.op = true /\ (mw o.op = true -> ∀ x ∈ o.op.operands.toList, ∀ b ∈ cB (ρ.ev C x), b ∈ B) /\ (gY C (nE mu o) o.op ρ aG).yv C v) \/ (gd ops ρ o.guard = .bool false /\ v = .aR [])
theorem Still.put {mu : List Nat} {ops : Array Oper} {B : List Nat} {aG : St} {o : Oper} {v : AV} (h : Still C mu ops B aG o ρ v) {dst : Option Tmp} {u : AV} (hd : ∀ d, dst = some d -> d ∉ o.looksAt ops) : Still C mu ops B aG o (ρ.ep dst u) v := by
 unfold Still at h ⊢
 rw [Bx ops o hd, GK ops o hd]
 rcases h with ⟨h1, h2, h3, h4⟩ | h
 · refine .inl ⟨h1, h2, fun DH x hx b hb => h3 DH x hx b ?_, h4⟩
   rw [F7 fun d p4 VH => hd d p4 (by
    subst VH
    exact List.mem_append_left _ (List.mem_filterMap.2 ⟨.tmp d, hx, rfl⟩))] at hb
   exact hb
 · exact .inr h
theorem Still.step {mu : List Nat} {ops : Array Oper} {B : List Nat} {aG : St} {o : Oper} {v : AV} {i : Nat} {K : Env -> St -> Prop} {Kp : AV -> St -> Prop} (hi : ops[i]? = some o) (h : Still C mu ops B aG o ρ v) (hI : cU B aG U) {I' : St -> Prop} (zn : I' U) (hk : K (ρ.ep o.dst v) U) :
 mz C mu ops I' i K Kp ρ U := by
 unfold mz
 rw [hi]
 dsimp only
 rcases h with ⟨h1, h2, h3, h4⟩ | ⟨h1, rfl⟩
 · rw [h1]
   refine ⟨fun _ => ?_, fun h => by cases h⟩
   have e := Sv (C := C) (ρ := ρ) (mu := nE mu o) (ae := U) (U := aG) o.op h2 (fun DH x hx b hb => hI b (h3 DH x (by simpa using hx) b hb))
   rw [e]
   exact au.IB _ h4 ⟨zn, hk⟩
 · rw [h1]
   exact ⟨fun h => (by cases h), fun _ => hk⟩
theorem Ae {mu : List Nat} {ops : Array Oper} {I : St -> Prop} {i : Nat} {K K' : Env -> St -> Prop} {Kp : AV -> St -> Prop} (hI : I U) (hk : ∀ ρ U, I U -> K ρ U -> K' ρ U) (h : mz C mu ops I i K Kp ρ U) : mz C mu ops I i K' Kp ρ U := by
 unfold mz at h ⊢
 split
 · rename_i ho; rw [ho] at h; exact hk _ _ hI h
 · rename_i o ho
   rw [ho] at h
   dsimp only at h
   cases hg : gd ops ρ o.guard <;> rw [hg] at h <;> simp only [aq] at h ⊢
   exact ⟨fun e => au.wp_mono (fun v U hv => ⟨hv.1, hk _ _ hv.1 hv.2⟩) _ (h.1 e), fun e => hk _ _ hI (h.2 e)⟩
theorem yZ {mu : List Nat} {ops : Array Oper} {B : List Nat} {aG : St} {K : Env -> St -> Prop} {Kp : AV -> St -> Prop} {i : Nat} {oi : Oper} {v : AV} (hi : ops[i]? = some oi) :
 ∀ (fuel : Nat) (listed : Array Bool) (ρ : Env) (U : St),
  (∀ j oj, ops[j]? = some oj -> j ≠ i -> listed.getD j true = false -> (∀ e ∈ oj.after, Region.binds .any e = true -> e.on ≠ i) -> oi.apart ops oj = true) ->
  i ∈ Region.ready .any ops listed -> Dn ops listed -> Still C mu ops B aG oi ρ v -> cU B aG U ->
  mF C mu ops (cU B aG) K Kp fuel (listed.setIfInBounds i true) (ρ.ep oi.dst v) U -> mF C mu ops (cU B aG) K Kp (fuel + 1) listed ρ U := by
 intro fuel
 induction fuel with
 | zero =>
   intro listed ρ U _ hr hD hy hI H
   refine ⟨fun h => (by rw [h] at hr; cases hr), fun j hj => ?_⟩
   by_cases qR : j = i
   · subst qR; exact hy.step hi hI (.inr hI) H
   · have := ready_mono hj qR
     rw [H.1] at this
     cases this
 | succ fuel ih =>
   intro listed ρ U Cv hr hD hy hI H
   refine ⟨fun h => (by rw [h] at hr; cases hr), fun j hj => ?_⟩
   by_cases qR : j = i
   · subst qR; exact hy.step hi hI (.inr hI) H
   · have h1 := H.2 j (ready_mono hj qR)
     obtain ⟨Vc, oj, nZ, bm⟩ := mem_ready.1 hj
     have OD : ∀ e ∈ oj.after, Region.binds .any e = true -> e.on ≠ i := fun e he hb heq => by
      have h1 := bm e he hb
      have h0 := (mem_ready.1 hr).1
      rw [heq] at h1
      rcases eM i listed.size with h' | h'
      · simp [h'] at h0 h1; rw [h0] at h1; cases h1
      · simp [uM h'] at h1
     obtain ⟨a1, a2, a3⟩ := Oper.apart_spec (Cv j oj nZ qR Vc OD)
     have U7 : ∀ k ok, ops[k]? = some ok -> k ≠ i -> (listed.setIfInBounds j true).getD k true = false ->
      (∀ e ∈ ok.after, Region.binds .any e = true -> e.on ≠ i) -> oi.apart ops ok = true := fun k ok hk Gk ZO fT => by
      refine Cv k ok hk Gk ?_ fT
      by_cases xQ : j = k
      · subst xQ; exact Vc
      · rw [getD_set_ne true xQ] at ZO; exact ZO
     have Jy : ¬ jy ops j = true := fun X9 => by
      have h1 := vB hD hj X9 i (jb.1 hi).1 (Ne.symm qR)
      have h0 := (mem_ready.1 hr).1
      rcases eM i listed.size with h' | h'
      · simp [h'] at h0 h1; rw [h0] at h1; cases h1
      · simp [uM h'] at h1
     have next : ∀ (u : AV) (ae : St), cU B aG ae -> mF C mu ops (cU B aG) K Kp fuel ((listed.setIfInBounds i true).setIfInBounds j true) ((ρ.ep oi.dst v).ep oj.dst u) ae ->
      mF C mu ops (cU B aG) K Kp (fuel + 1) (listed.setIfInBounds j true) (ρ.ep oj.dst u) ae := fun u ae zn hA => by
      refine ih (listed.setIfInBounds j true) (ρ.ep oj.dst u) ae U7 (ready_mono hr (Ne.symm qR)) (hD.set hj) (hy.put a3) zn ?_
      rw [Array.setIfInBounds_comm _ _ qR, <- Kw (d := oi.dst) (d' := oj.dst) (fun t ht => a2 t ht)]
      exact hA
     unfold mz at h1 ⊢
     rw [nZ] at h1 ⊢
     dsimp only at h1 ⊢
     rw [Bx ops oj a1, GK ops oj a1] at h1
     cases hg : gd ops ρ oj.guard <;> rw [hg] at h1 <;> simp only [aq] at h1 ⊢
     exact ⟨fun e => au.wp_mono (fun u ae hu => ⟨hu.1, next u ae (hu.1.resolve_left Jy) hu.2⟩) _ (h1.1 e), fun e => next _ U hI (h1.2 e)⟩
def gZ (ops : Array Oper) : List (Bool × Nat) -> Array Bool -> Bool
 | [], listed => (Region.ready .any ops listed).isEmpty
 | (true, i) :: r, listed => (Region.ready .any ops listed).contains i && Region.free .any ops listed i && gZ ops r (listed.setIfInBounds i true)
 | (false, i) :: r, listed => (Region.ready .any ops listed == [i]) && gZ ops r (listed.setIfInBounds i true)
def kM (C : cw) (mu : List Nat) (ops : Array Oper) (B : List Nat) (aG : St) (K : Env -> St -> Prop) (Kp : AV -> St -> Prop) : List (Bool × Nat) -> Env -> St -> Prop
 | [], ρ, U => K ρ U
 | (true, i) :: r, ρ, U => ∃ o v, ops[i]? = some o /\ Still C mu ops B aG o ρ v /\ kM C mu ops B aG K Kp r (ρ.ep o.dst v) U
 | (false, i) :: r, ρ, U => mz C mu ops (Ix ops (cU B aG) i) i (kM C mu ops B aG K Kp r) Kp ρ U
theorem OW {ops : Array Oper} {i : Nat} {listed : Array Bool} (hD : Dn ops listed) (hi : i ∈ Region.ready .any ops listed) (ha : jy ops i = true) : ∀ {r : List (Bool × Nat)}, gZ ops r (listed.setIfInBounds i true) = true -> r = []
 | [], _ => rfl
 | (b, k) :: r, h => by
   exfalso
   have hk : k ∈ Region.ready .any ops (listed.setIfInBounds i true) := by
    cases b with
    | true => simp only [gZ, bR] at h; simpa using h.1.1
    | false => simp only [gZ, bR, beq_iff_eq] at h; rw [h.1]; simp
   obtain ⟨h0, ok, cF, _⟩ := mem_ready.1 hk
   have BA := (mem_ready.1 hi).1
   have bW : k ≠ i := fun e => by
    subst e
    have aJ : k < listed.size := by
     rcases eM k listed.size with h | h
     · exact h
     · simp [uM h] at BA
    simp [aJ] at h0
   have h1 := vB hD hi ha k (jb.1 cF).1 bW
   rw [getD_set_ne true (Ne.symm bW)] at h0
   rcases eM k listed.size with h' | h'
   · simp [h'] at h0 h1; rw [h0] at h1; cases h1
   · simp [uM h'] at h1
theorem rY {mu : List Nat} {ops : Array Oper} {B : List Nat} {aG : St} {K : Env -> St -> Prop} {Kp : AV -> St -> Prop} : ∀ (df : List (Bool × Nat)) (listed : Array Bool) (ρ : Env) (U : St), gZ ops df listed = true -> Dn ops listed -> (df = [] \/ cU B aG U) -> kM C mu ops B aG K Kp df ρ U ->
 mF C mu ops (cU B aG) K Kp df.length listed ρ U
 | [], listed, ρ, U, hp, hD, hI, h => ⟨by simpa [gZ] using hp, h⟩
 | (true, i) :: r, listed, ρ, U, hp, hD, hI, h => by
   have hI := hI.resolve_left (by simp)
   simp only [gZ, bR] at hp
   obtain ⟨o, v, ho, fp, hr⟩ := h
   exact yZ ho r.length listed ρ U (Region.free_spec ho hp.1.2) (by simpa using hp.1.1) hD fp hI (rY r _ _ U hp.2 (hD.set (by simpa using hp.1.1)) (.inr hI) hr)
 | (false, i) :: r, listed, ρ, U, hp, hD, hI, h => by
   have hS := hI.resolve_left (by simp)
   simp only [gZ, bR, beq_iff_eq] at hp
   refine ⟨fun h0 => (by rw [hp.1] at h0; cases h0), fun j hj => ?_⟩
   have BB := hj
   rw [hp.1, mP] at hj
   subst hj
   exact Ae (.inr hS) (fun dH ae zn hr => rY r _ dH ae hp.2 (hD.set BB) (zn.elim (fun ha => .inl (OW hD BB ha hp.2)) .inr) hr) h
theorem bw.uO {id : Nat} {ops : Array Oper} (mu : List Nat) (B : List Nat) (df : List (Bool × Nat)) (hm : C.P.follows .mixedOrders = true) (cF : kL nt ops = true) (hp : (gZ ops df (Array.replicate ops.size false) && (df.length == ops.size)) = true)
 (h : kM C mu ops B U (KQ Q) (vy Q) df ρ U) : bw C nt ro (.region id ops true) Q ρ U := by
 simp only [bR, beq_iff_eq] at hp
 refine bw.B9 mu (cU B U) hm cF ?_
 have := rY df _ ρ U hp.1 (Dn.none _ _) (.inr fun _ _ => rfl) h
 rw [hp.2] at this
 exact this
theorem au.E0 {K : AV -> St -> Prop} {Kp yY : AV -> St -> Prop} (hp : ∀ v U, Kp v U -> yY v U) : ∀ (r : au) {U : St}, r.wp C U K Kp -> r.wp C U K yY
 | .val _, _, h => h
 | .jQ _ _ _, _, h => h
 | .new _ _ _, _, h => h
 | .jz _ _, _, h => h
 | .enter _ _, _, h => af.mono h fun r U hr => by cases r <;> first | exact hr | exact hp _ _ hr
 | .yield _ _, _, h => jW.mono h fun r U hr => by cases r <;> first | exact hr | exact hp _ _ hr
 | .panic _, _, h => hp _ _ h
 | @au.cond _ _ r, _, h => ⟨h.1, au.E0 hp r h.2⟩
 | .bad, _, h => h
theorem ix {mu : List Nat} {ops : Array Oper} {B : List Nat} {aG : St} {K K' : Env -> St -> Prop} {Kp yY : AV -> St -> Prop} (hk : ∀ ρ U, K ρ U -> K' ρ U) (hp : ∀ v U, Kp v U -> yY v U) : ∀ (l : List (Bool × Nat)) {ρ : Env} {U : St}, kM C mu ops B aG K Kp l ρ U -> kM C mu ops B aG K' yY l ρ U
 | [], _, _, h => hk _ _ h
 | (true, i) :: r, ρ, U, h => by
   obtain ⟨o, v, h1, h2, h3⟩ := h
   exact ⟨o, v, h1, h2, ix hk hp r h3⟩
 | (false, i) :: r, ρ, U, h => by
   simp only [kM, mz] at h ⊢
   split
   · rename_i ho; rw [ho] at h; exact ix hk hp r h
   · rename_i o ho
     rw [ho] at h
     dsimp only at h
     cases hg : gd ops ρ o.guard <;> rw [hg] at h <;> simp only [aq] at h ⊢
     exact ⟨fun e => au.wp_mono (fun v U hv => ⟨hv.1, ix hk hp r hv.2⟩) _ (au.E0 hp _ (h.1 e)), fun e => ix hk hp r (h.2 e)⟩
end
end Go.Rip
namespace Go.Rip
open Go.RowKit
def ov (kk : IntKind) (a : Int) (v : AV) (kv : List AV × List AV) : List AV × List AV := fB (.int kk a) v kv.1 kv.2
theorem rN (kk : IntKind) (a b : Int) : gS (.int kk a) (.int kk b) = decide (a < b) := by simp [gS]
def vw (kk : IntKind) (kv : List AV × List AV) : Prop := kv.1.length = kv.2.length /\ ∀ y ∈ kv.1, ∃ n, y = .int kk n
theorem DT (k v : AV) : ∀ ks vs : List AV, ks.length = vs.length -> (fB k v ks vs).1.length = (fB k v ks vs).2.length
 | [], [], _ => rfl
 | y :: ys, w :: ws, h => by
   simp only [fB]
   split
   · simpa using h
   · simpa using DT k v ys ws (by simpa using h)
 | [], _ :: _, h => by simp at h
 | _ :: _, [], h => by simp at h
theorem Gv {kk : IntKind} {a : Int} {v : AV} {kv : List AV × List AV} (h : vw kk kv) : vw kk (ov kk a v kv) :=
 ⟨DT _ _ _ _ h.1, fun y hy => by
   rcases uu _ _ y hy with rfl | hy
   · exact ⟨a, rfl⟩
   · exact h.2 y hy⟩
theorem BO {kk : IntKind} {a b : Int} {v w : AV} (zo : a ≠ b) : ∀ ks vs : List AV, ks.length = vs.length -> (∀ y ∈ ks, ∃ n, y = .int kk n) ->
 fB (.int kk a) v (fB (.int kk b) w ks vs).1 (fB (.int kk b) w ks vs).2 = fB (.int kk b) w (fB (.int kk a) v ks vs).1 (fB (.int kk a) v ks vs).2
 | [], [], _, _ => by
   simp only [fB, rN]
   by_cases h : a < b
   · have : ¬ b < a := by omega
     simp [h, this]
   · have : b < a := by omega
     simp [h, this]
 | y :: ys, x :: xs, h, hy => by
   obtain ⟨n, rfl⟩ := hy _ (List.mem_cons_self ..)
   have ih := BO (v := v) (w := w) zo ys xs (by simpa using h) (fun y hm => hy y (by simp [hm]))
   simp only [fB, rN]
   by_cases h1 : a < n <;> by_cases h2 : b < n <;> by_cases h3 : a < b
   all_goals (have h4 : b < a \/ ¬ b < a := by omega)
   all_goals (rcases h4 with h4 | h4 <;> simp only [h1, h2, h3, h4, bT, ct, if_true, if_false, bo, fB, rN] <;> first | omega | (simp only [ih]; done) | rfl | (simp [fB, rN, h1, h2, h3, h4, ih]; done))
 | [], _ :: _, h, _ => by simp at h
 | _ :: _, [], h, _ => by simp at h
theorem JJ {kk : IntKind} {a b : Int} {v w : AV} (zo : a ≠ b) {kv : List AV × List AV} (h : vw kk kv) : ov kk a v (ov kk b w kv) = ov kk b w (ov kk a v kv) := BO zo kv.1 kv.2 h.1 h.2
structure sk where
 i : Nat
 key : Int
 val : AV
def mY (kk : IntKind) (l : List sk) (kv : List AV × List AV) : List AV × List AV := l.foldl (fun kv x => ov kk x.key x.val kv) kv
theorem wj {kk : IntKind} : ∀ (o5 : List sk) (x : sk) (o6 : List sk) {kv : List AV × List AV}, vw kk kv -> (∀ y ∈ o5, y.key ≠ x.key) -> mY kk (o5 ++ x :: o6) kv = mY kk (o5 ++ o6) (ov kk x.key x.val kv)
 | [], x, o6, _, _, _ => rfl
 | y :: o5, x, o6, kv, h, hk => by
   show mY kk (o5 ++ x :: o6) (ov kk y.key y.val kv) = mY kk (o5 ++ o6) (ov kk y.key y.val (ov kk x.key x.val kv))
   rw [wj o5 x o6 (Gv h) (fun z hz => hk z (by simp [hz])), JJ (hk y (by simp)).symm h]
theorem Da {kk : IntKind} {a : Int} : ∀ (ks : List AV) (i : Nat), (∀ y ∈ ks, ∃ n, y = .int kk n /\ n ≠ a) -> jS .i (.int kk a) ks i = some none
 | [], _, _ => rfl
 | y :: ys, i, h => by
   obtain ⟨n, rfl, hn⟩ := h _ (List.mem_cons_self ..)
   have bW : (a == n) = false := by simpa using Ne.symm hn
   simp only [jS, fL, if_true, bW, bo, if_false]
   exact Da ys (i + 1) fun y hy => h y (by simp [hy])
theorem set_set (U : St) (b : Nat) (x y : Live) : (U.set b x).set b y = U.set b y := by
 simp only [St.set, St.mk.injEq, and_true]; funext q; split <;> rfl
theorem VU (U : St) (b : Nat) (ks vs : List AV) : (U.set b (.mp ks vs)).mp b = some (ks, vs) := by simp [St.mp, St.set]
section
variable {C : cw} {mu : List Nat} {ops : Array Oper} {B : List Nat} {aG : St} {K : Env -> St -> Prop} {Kp : AV -> St -> Prop}
def Xp (C : cw) (ops : Array Oper) (ρ : Env) (t : TypeId) (m : Nat) (kk : IntKind) (listed : Array Bool) (x : sk) : Prop := ∃ o v, ops[x.i]? = some o /\ o.op = .insert t (.tmp m) (.const (.int kk x.key)) v /\ o.dst = none /\ o.guard = none /\ ρ.ev C v = x.val /\
 ∀ e ∈ o.after, Region.binds .any e = true -> listed.getD e.on false = true
def SR (ops : Array Oper) (listed : Array Bool) (l : List sk) : Prop := ∀ j o, ops[j]? = some o -> listed.getD j true = false -> (∃ x ∈ l, x.i = j) \/ ∀ x ∈ l, ∃ e ∈ o.after, Region.binds .any e = true /\ e.on = x.i
theorem R1 {t : TypeId} {m : Nat} {kk : IntKind} {e : TypeId} (ht : oB C.P t = some (.i, e)) {id : Nat} {ρ : Env} (hm : ρ.get m = .mp id) (hB : id ∉ B) (mm : Nat) : ∀ (n : Nat) (l : List sk) (listed : Array Bool) (U : St) (kv : List AV × List AV), l.length = n ->
 (∀ x ∈ l, listed.getD x.i true = false) -> SR ops listed l -> l.Pairwise (fun x y => x.i ≠ y.i /\ x.key ≠ y.key) -> (∀ x ∈ l, Xp C ops ρ t m kk listed x) -> cU B aG U -> vw kk kv ->
 (∀ x ∈ l, .int kk x.key ∉ kv.1) -> (∀ j9 : Array Bool, j9.size = listed.size -> (∀ j, j9.getD j true = false ↔ listed.getD j true = false /\ ¬ ∃ x ∈ l, x.i = j) -> mF C mu ops (cU B aG) K Kp mm j9 ρ (U.set id (.mp (mY kk l kv).1 (mY kk l kv).2))) ->
 mF C mu ops (cU B aG) K Kp (n + mm) listed ρ (U.set id (.mp kv.1 kv.2)) := by
 intro n
 induction n with
 | zero =>
   intro l listed U kv hl zz tg hp cF hI Ql fT hK
   obtain rfl : l = [] := List.eq_nil_of_length_eq_zero hl
   rw [cr]
   exact hK listed rfl fun j => by simp
 | succ n ih =>
   intro l listed U kv hl zz tg hp cF hI Ql fT hK
   have DG : ∀ x ∈ l, x.i ∈ Region.ready .any ops listed := fun x hx => by
    obtain ⟨o, v, h1, _, _, _, _, h6⟩ := cF x hx
    exact mem_ready.2 ⟨zz x hx, o, h1, h6⟩
   rw [show n + 1 + mm = (n + mm) + 1 by omega]
   refine ⟨fun h => ?_, fun j hj => ?_⟩
   · obtain ⟨x, l', rfl⟩ : ∃ x l', l = x :: l' := by cases l with | nil => simp at hl | cons x l' => exact ⟨x, l', rfl⟩
     have := DG x (by simp)
     rw [h] at this; cases this
   · obtain ⟨x, hx, rfl⟩ : ∃ x ∈ l, x.i = j := by
      obtain ⟨h0, oj, nZ, bm⟩ := mem_ready.1 hj
      rcases tg j oj nZ h0 with h | h
      · exact h
      · exfalso
        obtain ⟨x, l', rfl⟩ : ∃ x l', l = x :: l' := by cases l with | nil => simp at hl | cons x l' => exact ⟨x, l', rfl⟩
        obtain ⟨ed, he, hb, zB⟩ := h x (by simp)
        have k1 := bm ed he hb
        rw [zB] at k1
        have k2 := zz x (by simp)
        rcases eM x.i listed.size with h' | h'
        · simp [h'] at k1 k2; rw [k2] at k1; cases k1
        · simp [uM h'] at k1
     obtain ⟨o, v, h1, h2, h3, h4, h5, h6⟩ := cF x hx
     obtain ⟨o5, o6, rfl⟩ := List.append_of_mem hx
     have hpa := hp
     rw [List.pairwise_append] at hp
     obtain ⟨p1, p2, p3⟩ := hp
     rw [List.pairwise_cons] at p2
     have Hw : jS .i (.int kk x.key) kv.1 0 = some none := Da _ _ fun y hy => by
      obtain ⟨n, rfl⟩ := Ql.2 y hy
      exact ⟨n, rfl, fun e => fT x hx (by rw [<- e]; exact hy)⟩
     unfold mz
     rw [h1]
     dsimp only
     rw [h4, h2, h3]
     refine ⟨fun _ => ?_, fun h => by cases h⟩
     have hop : gY C (nE mu o) (.insert t (.tmp m) (.const (.int kk x.key)) v) ρ (U.set id (.mp kv.1 kv.2)) = .jQ (.aR []) id (.mp (ov kk x.key x.val kv).1 (ov kk x.key x.val kv).2) := by
      show oC C.P t (ρ.ev C (.tmp m)) (ρ.ev C (.const (.int kk x.key))) (ρ.ev C v) _ = _
      rw [h5, show ρ.ev C (.tmp m) = .mp id from hm, show ρ.ev C (.const (.int kk x.key)) = .int kk x.key from rfl]
      simp only [oC, ht, VU, Hw, ox, ov]
     rw [hop]
     refine ⟨.inr fun b hb => ?_, ?_⟩
     · have bW : b ≠ id := fun e => hB (e ▸ hb)
       rw [set_set]
       simp only [St.set, if_neg bW]
       exact hI b hb
     · show mF C mu ops (cU B aG) K Kp (n + mm) (listed.setIfInBounds x.i true) ρ _
       rw [set_set]
       have aJ : x.i < listed.size := by
        have h0 := zz x hx
        rcases eM x.i listed.size with h | h
        · exact h
        · simp [uM h] at h0
       have Cw : (listed.setIfInBounds x.i true).getD x.i true = true := by simp [aJ]
       have nB : ∀ y ∈ o5 ++ o6, y ∈ o5 ++ x :: o6 := fun y hy => by
        simp only [eZ, dS] at hy ⊢
        rcases hy with hy | hy
        · exact .inl hy
        · exact .inr (.inr hy)
       have bW : ∀ y ∈ o5 ++ o6, x.i ≠ y.i := fun y hy => by
        rcases eZ.1 hy with hy | hy
        · exact (p3 y hy x (by simp)).1.symm
        · exact (p2.1 y hy).1
       refine ih (o5 ++ o6) (listed.setIfInBounds x.i true) U (ov kk x.key x.val kv) ?_ ?_ ?_ ?_ ?_ hI (Gv Ql) ?_ ?_
       · simp at hl ⊢; omega
       · intro y hy
         rw [getD_set_ne true (bW y hy)]
         exact zz y (nB y hy)
       · intro j oj nZ h0
         have Zs : x.i ≠ j := fun e => by subst e; rw [Cw] at h0; cases h0
         rw [getD_set_ne true Zs] at h0
         rcases tg j oj nZ h0 with ⟨y, hy, rfl⟩ | h
         · left
           refine ⟨y, ?_, rfl⟩
           simp only [eZ, dS] at hy ⊢
           rcases hy with hy | rfl | hy
           · exact .inl hy
           · exact absurd rfl Zs
           · exact .inr hy
         · right
           exact fun y hy => h y (nB y hy)
       · rw [List.pairwise_append]
         exact ⟨p1, p2.2, fun y hy z hz => p3 y hy z (by simp [hz])⟩
       · intro y hy
         obtain ⟨o', v', q1, q2, q3, q4, q5, q6⟩ := cF y (by simp only [eZ, dS] at hy ⊢; rcases hy with hy | hy; exact .inl hy; exact .inr (.inr hy))
         exact ⟨o', v', q1, q2, q3, q4, q5, fun ed he hb => getD_set_true (q6 ed he hb)⟩
       · intro y hy kF
         rcases uu _ _ _ kF with e | e
         · simp only [AV.int.injEq, true_and] at e
           rcases eZ.1 hy with hy | hy
           · exact (p3 y hy x (by simp)).2 e
           · exact (p2.1 y hy).2 e.symm
         · exact fT y (by simp only [eZ, dS] at hy ⊢; rcases hy with hy | hy; exact .inl hy; exact .inr (.inr hy)) e
       · rw [<- wj o5 x o6 Ql (fun y hy => (p3 y hy x (by simp)).2)]
         intro j9 dL BC
         refine hK j9 (by rw [dL]; simp) fun j => ?_
         rw [BC j]
         by_cases e : x.i = j
         · subst e
           rw [Cw]
           constructor
           · rintro ⟨h, _⟩; cases h
           · rintro ⟨_, h⟩; exact absurd ⟨x, by simp, rfl⟩ h
         · rw [getD_set_ne true e]
           refine and_congr_right fun _ => not_congr ?_
           constructor
           · rintro ⟨y, hy, rfl⟩; exact ⟨y, nB y hy, rfl⟩
           · rintro ⟨y, hy, rfl⟩
             refine ⟨y, ?_, rfl⟩
             simp only [eZ, dS] at hy ⊢
             rcases hy with hy | rfl | hy
             · exact .inl hy
             · exact absurd rfl e
             · exact .inr hy
def nf (ops : Array Oper) : List (Bool × Nat) -> Array Bool -> Option (Array Bool)
 | [], listed => some listed
 | (true, i) :: r, listed => cond ((Region.ready .any ops listed).contains i && Region.free .any ops listed i) (nf ops r (listed.setIfInBounds i true)) none
 | (false, i) :: r, listed => cond (Region.ready .any ops listed == [i] && !jy ops i) (nf ops r (listed.setIfInBounds i true)) none
theorem yG {m : Nat} {N8 : Array Bool} {K0 : Env -> St -> Prop} (ui : ∀ ρ U, Dn ops N8 -> cU B aG U -> K0 ρ U -> mF C mu ops (cU B aG) K Kp m N8 ρ U) : ∀ (df : List (Bool × Nat)) (listed : Array Bool) (ρ : Env) (U : St), nf ops df listed = some N8 -> Dn ops listed -> cU B aG U -> kM C mu ops B aG K0 Kp df ρ U ->
 mF C mu ops (cU B aG) K Kp (df.length + m) listed ρ U
 | [], listed, ρ, U, hp, hD, hI, h => by
   simp only [nf, gD] at hp
   subst hp
   simpa using ui ρ U hD hI h
 | (true, i) :: r, listed, ρ, U, hp, hD, hI, h => by
   simp only [nf] at hp
   cases hc : ((Region.ready .any ops listed).contains i && Region.free .any ops listed i) with
   | false => rw [hc] at hp; cases hp
   | true =>
     rw [hc] at hp
     simp only [bR] at hc
     obtain ⟨o, v, ho, fp, hr⟩ := h
     have := yZ ho (r.length + m) listed ρ U (Region.free_spec ho hc.2) (by simpa using hc.1) hD fp hI (yG ui r _ _ U hp (hD.set (by simpa using hc.1)) hI hr)
     rw [show ((true, i) :: r).length + m = r.length + m + 1 by simp; omega]
     exact this
 | (false, i) :: r, listed, ρ, U, hp, hD, hI, h => by
   simp only [nf] at hp
   cases hc : (Region.ready .any ops listed == [i] && !jy ops i) with
   | false => rw [hc] at hp; cases hp
   | true =>
     rw [hc] at hp
     simp only [bR, beq_iff_eq, Bool.not_eq_true'] at hc
     obtain ⟨hc, Jy⟩ := hc
     rw [show ((false, i) :: r).length + m = r.length + m + 1 by simp; omega]
     refine ⟨fun h0 => (by rw [hc] at h0; cases h0), fun j hj => ?_⟩
     have BB := hj
     rw [hc, mP] at hj
     subst hj
     exact Ae (.inr hI) (fun dH ae zn hr => yG ui r _ dH ae hp (hD.set BB) (zn.resolve_left (by rw [Jy]; simp)) hr) h
structure lu where
 t : TypeId
 m : Nat
 kk : IntKind
 l : List Nat
def HE (I : lu) (o : Oper) : Option (Int × Operand) := match o.op, o.dst, o.guard with
 | .insert t (.tmp m) (.const (.int kk a)) v, none, none => cond (Nat.beq t I.t && (Nat.beq m I.m && decide (kk = I.kk))) (some (a, v)) none
 | _, _, _ => none
def jZ (ops : Array Oper) (I : lu) (i : Nat) : Option (Int × Operand) := (ops[i]?).bind (HE I)
def Cr (listed : Array Bool) (o : Oper) : Bool := o.after.toList.all fun e => !Region.binds .any e || listed.getD e.on false
def Az (ops : Array Oper) (I : lu) (listed : Array Bool) : Bool := (List.range ops.size).all fun j => listed.getD j true || (I.l.contains j || (match ops[j]? with
 | some o => I.l.all fun i => o.after.toList.any fun e => Region.binds .any e && Nat.beq e.on i
 | none => true))
def n0 (ops : Array Oper) (I : lu) (listed : Array Bool) : Bool :=
 Az ops I listed && (I.l.all (fun i => !listed.getD i true) && (Nat.beq listed.size ops.size && (I.l.all (fun i => Nat.blt i ops.size && ((jZ ops I i).isSome && (match ops[i]? with | some o => Cr listed o | none => false)))
  && (decide I.l.Nodup && decide (I.l.map fun i => ((jZ ops I i).map (·.1)).getD 0).Nodup))))
def fj (listed : Array Bool) (l : List Nat) : Array Bool := l.foldl (fun a i => a.setIfInBounds i true) listed
theorem sN : ∀ (l : List Nat) (a : Array Bool), (fj a l).size = a.size
 | [], _ => rfl
 | i :: l, a => by
   show (fj (a.setIfInBounds i true) l).size = _
   rw [sN l]; simp
theorem uQ : ∀ (l : List Nat) (a : Array Bool) (j : Nat), (fj a l).getD j true = false ↔ a.getD j true = false /\ j ∉ l
 | [], _, _ => by simp [fj]
 | i :: l, a, j => by
   show (fj (a.setIfInBounds i true) l).getD j true = false ↔ _
   rw [uQ l]
   by_cases e : i = j
   · subst e
     have : (a.setIfInBounds i true).getD i true = true := by
      by_cases h : i < a.size
      · simp [h]
      · simp [uM (Nat.le_of_not_lt h)]
     rw [this]; simp
   · rw [getD_set_ne true e]; simp [Ne.symm e]
def ln (C : cw) (ops : Array Oper) (ρ : Env) (I : lu) : List sk := I.l.filterMap fun i => (jZ ops I i).map fun p => ⟨i, p.1, ρ.ev C p.2⟩
def HD (C : cw) (ops : Array Oper) (B : List Nat) (I : lu) (K : Env -> St -> Prop) (ρ : Env) (U : St) : Prop :=
 ∃ id, ρ.get I.m = .mp id /\ U.mp id = some ([], []) /\ id ∉ B /\ K ρ (U.set id (.mp (mY I.kk (ln C ops ρ I) ([], [])).1 (mY I.kk (ln C ops ρ I) ([], [])).2))
theorem HF {I : lu} {o : Oper} {a : Int} {v : Operand} (h : HE I o = some (a, v)) : o.op = .insert I.t (.tmp I.m) (.const (.int I.kk a)) v /\ o.dst = none /\ o.guard = none := by
 unfold HE at h
 split at h
 · rename_i t m kk a' v' h1 h2 h3
   cases hc : (Nat.beq t I.t && (Nat.beq m I.m && decide (kk = I.kk))) with
   | false => rw [hc] at h; cases h
   | true =>
     rw [hc] at h
     simp only [bR, c7] at hc
     obtain ⟨e1, e2, e3⟩ := hc
     have e1 := eB e1
     have e2 := eB e2
     simp only [cond_true, gD, jM] at h
     obtain ⟨rfl, rfl⟩ := h
     exact ⟨by rw [h1, e1, e2, e3], h2, h3⟩
 · cases h
theorem FQ {U : St} {id : Nat} {kv : List AV × List AV} (h : U.mp id = some kv) : U.set id (.mp kv.1 kv.2) = U := by
 have := St.nc.1 h
 simp only [St.set]
 cases U with
 | mk live nb =>
   simp only [St.mk.injEq, and_true]
   funext q
   split
   · rename_i e; subst e; exact this.symm
   · rfl
theorem Dn.fj {I : lu} {listed : Array Bool} (hD : Dn ops listed) (hc : n0 ops I listed = true) : Dn ops (Go.Rip.fj listed I.l) := by
 simp only [n0, bR, ef] at hc
 obtain ⟨h0, h1, h2, h3, _⟩ := hc
 have h2 := eB h2
 have mono : ∀ (l : List Nat) (a : Array Bool) (j : Nat), a.getD j false = true -> (Go.Rip.fj a l).getD j false = true := fun l => by
  induction l with
  | nil => exact fun a j h => h
  | cons i l ih => exact fun a j h => ih _ j (getD_set_true h)
 intro m o ho hl e he hb
 by_cases hm : m ∈ I.l
 · have := (h3 m hm).2.2
   rw [ho] at this
   simp only [Cr, ef, jt] at this
   have := this e (by simpa using he)
   rw [hb] at this
   exact mono _ _ _ (by simpa using this)
 · have aJ : m < listed.size := by rw [h2]; exact (jb.1 ho).1
   have hlm : listed.getD m false = true := by
    cases hh : listed.getD m true with
    | false =>
      have k := (uQ I.l listed m).2 ⟨hh, hm⟩
      have hs : m < (Go.Rip.fj listed I.l).size := by rw [sN]; exact aJ
      simp [hs] at k hl
      rw [k] at hl; cases hl
    | true => simp [aJ] at hh ⊢; exact hh
   exact mono _ _ _ (hD m o ho hlm e he hb)
theorem JK {I : lu} {listed : Array Bool} {e : TypeId} {mm : Nat} {K1 : Env -> St -> Prop} (ht : oB C.P I.t = some (.i, e)) (hc : n0 ops I listed = true)
 (hK1 : ∀ ρ U, Dn ops (fj listed I.l) -> cU B aG U -> K1 ρ U -> mF C mu ops (cU B aG) K Kp mm (fj listed I.l) ρ U) : ∀ ρ U, Dn ops listed -> cU B aG U -> HD C ops B I K1 ρ U -> mF C mu ops (cU B aG) K Kp (I.l.length + mm) listed ρ U := by
 rintro ρ U hD hI ⟨id, hm, Dx, hB, hK⟩
 have hDs := hD.fj hc
 simp only [n0, bR, ef, c7, Bool.not_eq_true'] at hc
 obtain ⟨h0, h1, h2, h3, h4, h5⟩ := hc
 have h2 := eB h2
 have Hz : ∀ i ∈ I.l, ∃ a v, jZ ops I i = some (a, v) := fun i hi => by
  have := (h3 i hi).2.1
  obtain ⟨p, hp⟩ := Option.isSome_iff_exists.1 this
  exact ⟨p.1, p.2, hp⟩
 have kF : ∀ x, x ∈ ln C ops ρ I ↔ ∃ i ∈ I.l, ∃ a v, jZ ops I i = some (a, v) /\ x = ⟨i, a, ρ.ev C v⟩ := fun x => by
  simp only [ln, List.mem_filterMap, mO]
  constructor
  · rintro ⟨i, hi, ⟨a, v⟩, hp, rfl⟩; exact ⟨i, hi, a, v, hp, rfl⟩
  · rintro ⟨i, hi, a, v, hp, rfl⟩; exact ⟨i, hi, (a, v), hp, rfl⟩
 have mD : ∀ j, (∃ x ∈ ln C ops ρ I, x.i = j) ↔ j ∈ I.l := fun j => by
  constructor
  · rintro ⟨x, hx, rfl⟩
    obtain ⟨i, hi, a, v, hp, rfl⟩ := (kF _).1 hx
    exact hi
  · intro hj
    obtain ⟨a, v, hp⟩ := Hz j hj
    exact ⟨_, (kF _).2 ⟨j, hj, a, v, hp, rfl⟩, rfl⟩
 rw [<- FQ Dx]
 have hlen : (ln C ops ρ I).length = I.l.length := by
  have : ∀ l : List Nat, (∀ i ∈ l, ∃ a v, jZ ops I i = some (a, v)) -> (l.filterMap fun i => (jZ ops I i).map fun p => (⟨i, p.1, ρ.ev C p.2⟩ : sk)).length = l.length := fun l => by
   induction l with
   | nil => intro _; rfl
   | cons i l ih =>
     intro h
     obtain ⟨a, v, hp⟩ := h i (by simp)
     simp only [List.filterMap_cons, hp, Option.map_some, jL, ih fun j hj => h j (by simp [hj])]
  exact this _ Hz
 have hpw : (ln C ops ρ I).Pairwise (fun x y => x.i ≠ y.i /\ x.key ≠ y.key) := by
  have : ∀ l : List Nat, (∀ i ∈ l, ∃ a v, jZ ops I i = some (a, v)) -> l.Nodup -> (l.map fun i => ((jZ ops I i).map (·.1)).getD 0).Nodup -> (l.filterMap fun i => (jZ ops I i).map fun p => (⟨i, p.1, ρ.ev C p.2⟩ : sk)).Pairwise (fun x y => x.i ≠ y.i /\ x.key ≠ y.key) := fun l => by
   induction l with
   | nil => intro _ _ _; exact List.Pairwise.nil
   | cons i l ih =>
     intro h hn hk
     obtain ⟨a, v, hp⟩ := h i (by simp)
     rw [List.nodup_cons] at hn
     rw [dJ, List.nodup_cons] at hk
     simp only [List.filterMap_cons, hp, Option.map_some]
     refine List.Pairwise.cons (fun y hy => ?_) (ih (fun j hj => h j (by simp [hj])) hn.2 hk.2)
     rw [List.mem_filterMap] at hy
     obtain ⟨j, hj, Zt⟩ := hy
     rw [mO] at Zt
     obtain ⟨p, Gn, rfl⟩ := Zt
     refine ⟨fun e => hn.1 (by have e : i = j := e; rw [e]; exact hj), fun e => hk.1 ?_⟩
     have e : a = p.1 := e
     refine List.mem_map.2 ⟨j, hj, ?_⟩
     rw [Gn, hp]; simp [e]
  exact this _ Hz h4 h5
 refine R1 (kk := I.kk) ht hm hB mm _ (ln C ops ρ I) listed U ([], []) hlen ?_ ?_ hpw ?_ hI ⟨rfl, fun y hy => by cases hy⟩ (fun x hx => by simp) ?_
 · intro x hx
   exact h1 x.i ((mD x.i).1 ⟨x, hx, rfl⟩)
 · intro j o ho hj
   have aJ : j < ops.size := (jb.1 ho).1
   simp only [Az, ef, List.mem_range, jt] at h0
   have := h0 j aJ
   rw [ho, hj] at this
   rcases this with h | h | h
   · cases h
   · left; exact (mD j).2 (by simpa using h)
   · right
     intro x hx
     simp only [ef] at h
     have := h x.i ((mD x.i).1 ⟨x, hx, rfl⟩)
     rw [List.any_eq_true] at this
     obtain ⟨ed, he, hb⟩ := this
     simp only [bR] at hb
     exact ⟨ed, by simpa using he, hb.1, eB hb.2⟩
 · intro x hx
   obtain ⟨i, hi, a, v, hp, rfl⟩ := (kF _).1 hx
   unfold jZ at hp
   rw [Option.bind_eq_some_iff] at hp
   obtain ⟨o, ho, hp⟩ := hp
   obtain ⟨q1, q2, q3⟩ := HF hp
   refine ⟨o, v, ho, q1, q2, q3, rfl, fun ed he hb => ?_⟩
   have := (h3 i hi).2.2
   rw [ho] at this
   simp only [Cr, ef, jt] at this
   have := this ed (by simpa using he)
   rw [hb] at this
   simpa using this
 · intro j9 dL BC
   have e : j9 = fj listed I.l := by
    apply Array.ext (by rw [sN, dL])
    intro j qQ oR
    have k1 := BC j
    have k2 := uQ I.l listed j
    rw [mD] at k1
    have k3 : j9.getD j true = false ↔ (fj listed I.l).getD j true = false := k1.trans k2.symm
    have e1 : j9.getD j true = j9[j] := by simp [qQ]
    have e2 : (fj listed I.l).getD j true = (fj listed I.l)[j] := by simp [oR]
    rw [e1, e2] at k3
    cases h1 : j9[j] <;> cases h2 : (fj listed I.l)[j] <;> simp_all
   rw [e]
   refine hK1 ρ _ hDs ?_ hK
   intro b hb
   have bW : b ≠ id := fun e => hB (e ▸ hb)
   simp only [St.set, if_neg bW]
   exact hI b hb
def r9 (P : Program) (ops : Array Oper) (df : List (Bool × Nat)) (I : lu) (post : List (Bool × Nat)) : Bool :=
 (match nf ops df (Array.replicate ops.size false) with | some l => n0 ops I l && gZ ops post (fj l I.l) | none => false) && (Nat.beq (df.length + (I.l.length + post.length)) ops.size && (match oB P I.t with | some (.i, _) => true | _ => false))
theorem bw.KA {nt id : Nat} {ro : Ro} {Q : Ex -> Env -> St -> Prop} {ρ : Env} {U : St} (df : List (Bool × Nat)) (I : lu) (post : List (Bool × Nat)) (hm : C.P.follows .mixedOrders = true) (cF : kL nt ops = true) (hp : r9 C.P ops df I post = true)
 (h : kM C mu ops B U (HD C ops B I (kM C mu ops B U (KQ Q) (vy Q) post)) (vy Q) df ρ U) : bw C nt ro (.region id ops true) Q ρ U := by
 simp only [r9, bR] at hp
 obtain ⟨h1, h2, h3⟩ := hp
 have h2 := eB h2
 split at h3
 · rename_i e ht
   split at h1
   · rename_i l hl
     rw [bR] at h1
     refine bw.B9 mu (cU B U) hm cF ?_
     have := yG (JK ht h1.1 (fun dH ae hD' zn hk => rY post _ dH ae h1.2 hD' (.inr zn) hk)) df _ ρ U hl (Dn.none _ _) (fun _ _ => rfl) h
     rw [h2] at this
     exact this
   · cases h1
 · cases h3
end
end Go.Rip
namespace Go.Rip
open Go.RowKit
structure Row where
 d : Nat
 l : Nat
 a : Nat
def G7 : Option Nat -> Nat
 | some d => 2 ^ d
 | none => 0
def nx : List Nat -> Nat
 | [] => 0
 | d :: l => Nat.lor (2 ^ d) (nx l)
theorem dp (k : Nat) : ∀ l : List Nat, (nx l).testBit k = true ↔ k ∈ l
 | [] => by simp [nx]
 | d :: l => by
   show (2 ^ d ||| nx l).testBit k = true ↔ _
   rw [Nat.testBit_or, Nat.testBit_two_pow, jt, dp k l]
   simp [eq_comm]
theorem hU (k : Nat) (o : Option Nat) : (G7 o).testBit k = true ↔ o = some k := by
 cases o with
 | none => simp [G7]
 | some d => simp [G7, Nat.testBit_two_pow]
def vA (o : Oper) : List Nat := (o.after.toList.filter fun e => Region.binds .any e).map (·.on)
def rowOf (ops : Array Oper) (o : Oper) : Row := ⟨G7 o.dst, nx (o.looksAt ops), nx (vA o)⟩
def kQ (a b : Nat) : Bool := Nat.beq (Nat.land a b) a
def Hd (a b : Nat) : Bool := Nat.beq (Nat.land a b) 0
theorem pM {a b : Nat} (h : kQ a b = true) (k : Nat) (hk : a.testBit k = true) : b.testBit k = true := by
 have e : a &&& b = a := eB h
 have := congrArg (fun n => n.testBit k) e
 simp only [Nat.testBit_and, hk, Bool.true_and] at this
 exact this
theorem nR {a b : Nat} (h : Hd a b = true) (k : Nat) (hk : a.testBit k = true) : ¬ b.testBit k = true := by
 have e : a &&& b = 0 := eB h
 have := congrArg (fun n => n.testBit k) e
 simp only [Nat.testBit_and, hk, Bool.true_and, Nat.zero_testBit] at this
 simp [this]
def hasB (m i : Nat) : Bool := Nat.beq (Nat.land (Nat.shiftRight m i) 1) 1
theorem lk (m i : Nat) : hasB m i = m.testBit i := by
 have e : Nat.land (Nat.shiftRight m i) 1 = 1 &&& (m >>> i) := Nat.and_comm _ _
 unfold hasB Nat.testBit
 rw [e]
 cases h : Nat.beq (1 &&& m >>> i) 1 with
 | true => have := eB h; rw [this]; rfl
 | false =>
   have h1 : (1 &&& m >>> i) ≠ 1 := fun e => by rw [e] at h; simp at h
   have h2 : (1 &&& m >>> i) = 0 := by
    have : 1 &&& (m >>> i) = (m >>> i) % 2 := Nat.one_and_eq_mod_two _
    omega
   rw [h2]; rfl
def CB (i : Nat) (x y : Row) : Bool := hasB y.a i || (Hd x.d y.l && (Hd x.d y.d && Hd y.d x.l))
def ym (done i : Nat) (x : Row) : List Row -> Nat -> Bool
 | [], _ => true
 | y :: r, j => (Nat.beq j i || (hasB done j || CB i x y)) && ym done i x r (j + 1)
def yl (done i : Nat) : List Row -> Nat -> Bool
 | [], _ => true
 | y :: r, j => (Nat.beq j i || (hasB done j || !kQ y.a done)) && yl done i r (j + 1)
def uG (rows : List Row) (n : Nat) : List (Bool × Nat) -> Nat -> Bool
 | [], done => Nat.beq done (2 ^ n - 1)
 | (true, i) :: r, done => match rows[i]? with
   | some x => !hasB done i && (kQ x.a done && (ym done i x rows 0 && uG rows n r (Nat.lor done (2 ^ i))))
   | none => false
 | (false, i) :: r, done => match rows[i]? with
   | some x => !hasB done i && (kQ x.a done && (yl done i rows 0 && uG rows n r (Nat.lor done (2 ^ i))))
   | none => false
theorem vD {done i : Nat} {x : Row} : ∀ {l : List Row} {j : Nat}, ym done i x l j = true -> ∀ k y, l[k]? = some y -> (j + k = i \/ done.testBit (j + k) = true \/ CB i x y = true)
 | [], _, _, k, y, hy => by simp at hy
 | z :: r, j, h, k, y, hy => by
   simp only [ym, bR, jt, lk] at h
   cases k with
   | zero =>
     simp at hy; subst hy
     rcases h.1 with h | h | h
     · exact .inl (eB h)
     · exact .inr (.inl h)
     · exact .inr (.inr h)
   | succ k =>
     have := vD h.2 k y (by simpa using hy)
     rw [show j + (k + 1) = j + 1 + k by omega]; exact this
theorem vC {done i : Nat} : ∀ {l : List Row} {j : Nat}, yl done i l j = true -> ∀ k y, l[k]? = some y -> (j + k = i \/ done.testBit (j + k) = true \/ kQ y.a done = false)
 | [], _, _, k, y, hy => by simp at hy
 | z :: r, j, h, k, y, hy => by
   simp only [yl, bR, jt, lk, Bool.not_eq_true'] at h
   cases k with
   | zero =>
     simp at hy; subst hy
     rcases h.1 with h | h | h
     · exact .inl (eB h)
     · exact .inr (.inl h)
     · exact .inr (.inr h)
   | succ k =>
     have := vC h.2 k y (by simpa using hy)
     rw [show j + (k + 1) = j + 1 + k by omega]; exact this
def fV (n : Nat) (listed : Array Bool) (done : Nat) : Prop := listed.size = n /\ ∀ k, k < n -> listed[k]? = some (done.testBit k)
section
variable {ops : Array Oper} {listed : Array Bool} {done : Nat}
theorem fV.get (h : fV ops.size listed done) {k : Nat} (hk : k < ops.size) (d : Bool) : listed.getD k d = done.testBit k := by
 have := h.2 k hk
 simp [this]
theorem fV.out (h : fV ops.size listed done) {k : Nat} (hk : ¬ k < ops.size) (d : Bool) : listed.getD k d = d := by
 have : listed[k]? = none := uM (by rw [h.1]; omega)
 simp [this]
theorem fV.set (h : fV ops.size listed done) (i : Nat) : fV ops.size (listed.setIfInBounds i true) (Nat.lor done (2 ^ i)) := by
 refine ⟨by simp [h.1], fun k hk => ?_⟩
 show _ = some ((done ||| 2 ^ i).testBit k)
 rw [Nat.testBit_or, Nat.testBit_two_pow]
 by_cases e : i = k
 · subst e
   have : i < listed.size := by rw [h.1]; exact hk
   simp [Array.getElem?_setIfInBounds, this]
 · rw [Array.getElem?_setIfInBounds_ne e, h.2 k hk]
   simp [e]
theorem uP {i : Nat} {x : Row} (h : (ops.toList.map (rowOf ops))[i]? = some x) : ∃ o, ops[i]? = some o /\ x = rowOf ops o := by
 rw [kN, mO] at h
 obtain ⟨o, ho, e⟩ := h
 exact ⟨o, by simpa using ho, e.symm⟩
theorem qv {o : Oper} {k : Nat} : k ∈ vA o ↔ ∃ e ∈ o.after, Region.binds .any e = true /\ e.on = k := by
 simp [vA, and_assoc]
theorem oc (h : fV ops.size listed done) {j : Nat} {o : Oper} (ho : ops[j]? = some o) : j ∈ Region.ready .any ops listed ↔ done.testBit j = false /\ ∀ k, k ∈ vA o -> k < ops.size /\ done.testBit k = true := by
 have hj : j < ops.size := (jb.1 ho).1
 rw [mem_ready, h.get hj]
 refine and_congr_right fun _ => ⟨?_, ?_⟩
 · rintro ⟨o', Qs, bm⟩ k hk
   rw [ho] at Qs; cases Qs
   obtain ⟨e, he, hb, rfl⟩ := qv.1 hk
   have := bm e he hb
   by_cases hk : e.on < ops.size
   · rw [h.get hk] at this; exact ⟨hk, this⟩
   · rw [h.out hk] at this; cases this
 · intro bm
   refine ⟨o, ho, fun e he hb => ?_⟩
   obtain ⟨hk, ht⟩ := bm e.on (qv.2 ⟨e, he, hb, rfl⟩)
   rw [h.get hk]; exact ht
theorem Cl {i : Nat} {o : Oper} (hm : fV ops.size listed done) (ho : ops[i]? = some o) (h3 : ym done i (rowOf ops o) (ops.toList.map (rowOf ops)) 0 = true) : Region.free .any ops listed i = true := by
 simp only [Region.free, ho, ef, List.mem_range, jt]
 intro j hj
 obtain ⟨oj, nZ⟩ : ∃ oj, ops[j]? = some oj := ⟨ops[j], by simp [hj]⟩
 rw [nZ]
 have hy : (ops.toList.map (rowOf ops))[j]? = some (rowOf ops oj) := by
  rw [kN]; simp [nZ]
 rcases vD h3 j _ hy with e | e | e
 · left; left; simp at e; simp [e]
 · left; right; rw [hm.get hj]; simpa using e
 · right
   simp only [CB, jt, bR, lk] at e
   show ((oj.after.any fun e => Region.binds .any e && e.on == i) || o.apart ops oj) = true
   rw [jt]
   rcases e with e | ⟨e1, e2, e3⟩
   · left
     have := (dp i _).1 e
     obtain ⟨ed, he, hb, zB⟩ := qv.1 this
     rw [Array.any_eq_true']
     exact ⟨ed, he, by simp [hb, zB]⟩
   · right
     have k1 : ∀ d, o.dst = some d -> d ∉ oj.looksAt ops := fun d hd hm => nR e1 d ((hU d _).2 hd) ((dp d _).2 hm)
     have k2 : ∀ d, o.dst = some d -> oj.dst ≠ some d := fun d hd hm => nR e2 d ((hU d _).2 hd) ((hU d _).2 hm)
     have k3 : ∀ d, oj.dst = some d -> d ∉ o.looksAt ops := fun d hd hm => nR e3 d ((hU d _).2 hd) ((dp d _).2 hm)
     unfold Oper.apart
     cases xN : o.dst <;> cases vg : oj.dst <;> simp only [bR, Bool.not_eq_true', bne_iff_ne, ne_eq, Bool.and_self, and_self, true_and, and_true]
     · rename_i d; simpa using k3 d vg
     · rename_i d; exact ⟨by simpa using k1 d xN, by simp⟩
     · rename_i d d'
       refine ⟨⟨by simpa using k1 d xN, fun e => k2 d xN (by rw [vg]; exact e)⟩, by simpa using k3 d' vg⟩
theorem wH {i : Nat} {o : Oper} (hm : fV ops.size listed done) (ho : ops[i]? = some o) (h1 : done.testBit i = false) (sub : ∀ k, k ∈ vA o -> k < ops.size /\ done.testBit k = true) (h3 : yl done i (ops.toList.map (rowOf ops)) 0 = true) : Region.ready .any ops listed = [i] := by
 have key : ∀ j, j ∈ Region.ready .any ops listed -> j = i := fun j hj => by
  obtain ⟨h0, oj, nZ, _⟩ := mem_ready.1 hj
  have hr := (oc hm nZ).1 hj
  have Dq : j < ops.size := (jb.1 nZ).1
  have hy : (ops.toList.map (rowOf ops))[j]? = some (rowOf ops oj) := by
   rw [kN]; simp [nZ]
  rcases vC h3 j _ hy with e | e | e
  · simpa using e
  · rw [cr] at e; rw [hr.1] at e; cases e
  · exfalso
    have : kQ (rowOf ops oj).a done = true := by
     unfold kQ
     have e2 : (rowOf ops oj).a &&& done = (rowOf ops oj).a := by
      apply Nat.eq_of_testBit_eq
      intro k
      rw [Nat.testBit_and]
      cases hk : (rowOf ops oj).a.testBit k with
      | false => rfl
      | true => rw [(hr.2 k ((dp k _).1 hk)).2]; rfl
     show Nat.beq ((rowOf ops oj).a &&& done) _ = true
     rw [e2]; simp
    rw [this] at e; cases e
 have kF := (oc hm ho).2 ⟨h1, sub⟩
 have hnd : (Region.ready .any ops listed).Nodup := (List.Pairwise.filter _ List.nodup_range)
 match hl : Region.ready .any ops listed with
 | [] => rw [hl] at kF; cases kF
 | [x] => rw [hl] at key; rw [key x (by simp)]
 | x :: y :: zs =>
   rw [hl] at key hnd
   have e1 := key x (by simp)
   have e2 := key y (by simp)
   subst e1; subst e2
   simp at hnd
theorem uH : ∀ (df : List (Bool × Nat)) (listed : Array Bool) (done : Nat), fV ops.size listed done -> done < 2 ^ ops.size -> uG (ops.toList.map (rowOf ops)) ops.size df done = true -> gZ ops df listed = true
 | [], listed, done, hm, aJ, h => by
   have e : done = 2 ^ ops.size - 1 := eB h
   simp only [gZ, List.isEmpty_iff]
   rw [List.eq_nil_iff_forall_not_mem]
   intro j hj
   obtain ⟨h0, o, ho, _⟩ := mem_ready.1 hj
   have Dq : j < ops.size := (jb.1 ho).1
   rw [hm.get Dq, e, Nat.testBit_two_pow_sub_one] at h0
   simp [Dq] at h0
 | (true, i) :: r, listed, done, hm, aJ, h => by
   simp only [uG] at h
   split at h
   · rename_i x hx
     obtain ⟨o, ho, rfl⟩ := uP hx
     simp only [bR, Bool.not_eq_true', lk] at h
     obtain ⟨h1, h2, h3, h4⟩ := h
     have hi : i < ops.size := (jb.1 ho).1
     have mI : Nat.lor done (2 ^ i) < 2 ^ ops.size := Nat.or_lt_two_pow aJ (Nat.pow_lt_pow_right (by omega) hi)
     have sub : ∀ k, k ∈ vA o -> k < ops.size /\ done.testBit k = true := fun k hk => by
      have := pM h2 k ((dp k _).2 hk)
      refine ⟨?_, this⟩
      rcases eM k ops.size with h | h
      · exact h
      · rw [Nat.testBit_lt_two_pow (Nat.lt_of_lt_of_le aJ (Nat.pow_le_pow_right (by omega) h))] at this; cases this
     simp only [gZ, bR]
     refine ⟨⟨?_, ?_⟩, uH r _ _ (hm.set i) mI h4⟩
     · simp only [List.contains_iff_mem]
       exact (oc hm ho).2 ⟨h1, sub⟩
     · simp only [Region.free, ho, ef, List.mem_range, jt]
       intro j hj
       obtain ⟨oj, nZ⟩ : ∃ oj, ops[j]? = some oj := ⟨ops[j], by simp [hj]⟩
       rw [nZ]
       have hy : (ops.toList.map (rowOf ops))[j]? = some (rowOf ops oj) := by
        rw [kN]; simp [nZ]
       rcases vD h3 j _ hy with e | e | e
       · left; left; simp at e; simp [e]
       · left; right; rw [hm.get hj]; simpa using e
       · right
         simp only [CB, jt, bR, lk] at e
         show ((oj.after.any fun e => Region.binds .any e && e.on == i) || o.apart ops oj) = true
         rw [jt]
         rcases e with e | ⟨e1, e2, e3⟩
         · left
           have := (dp i _).1 e
           obtain ⟨ed, he, hb, zB⟩ := qv.1 this
           rw [Array.any_eq_true']
           exact ⟨ed, he, by simp [hb, zB]⟩
         · right
           have k1 : ∀ d, o.dst = some d -> d ∉ oj.looksAt ops := fun d hd hm => nR e1 d ((hU d _).2 hd) ((dp d _).2 hm)
           have k2 : ∀ d, o.dst = some d -> oj.dst ≠ some d := fun d hd hm => nR e2 d ((hU d _).2 hd) ((hU d _).2 hm)
           have k3 : ∀ d, oj.dst = some d -> d ∉ o.looksAt ops := fun d hd hm => nR e3 d ((hU d _).2 hd) ((dp d _).2 hm)
           unfold Oper.apart
           cases xN : o.dst <;> cases vg : oj.dst <;> simp only [bR, Bool.not_eq_true', bne_iff_ne, ne_eq, Bool.and_self, and_self, true_and, and_true]
           · rename_i d; simpa using k3 d vg
           · rename_i d; exact ⟨by simpa using k1 d xN, by simp⟩
           · rename_i d d'
             refine ⟨⟨by simpa using k1 d xN, fun e => k2 d xN (by rw [vg]; exact e)⟩, by simpa using k3 d' vg⟩
   · cases h
 | (false, i) :: r, listed, done, hm, aJ, h => by
   simp only [uG] at h
   split at h
   · rename_i x hx
     obtain ⟨o, ho, rfl⟩ := uP hx
     simp only [bR, Bool.not_eq_true', lk] at h
     obtain ⟨h1, h2, h3, h4⟩ := h
     have hi : i < ops.size := (jb.1 ho).1
     have mI : Nat.lor done (2 ^ i) < 2 ^ ops.size := Nat.or_lt_two_pow aJ (Nat.pow_lt_pow_right (by omega) hi)
     have sub : ∀ k, k ∈ vA o -> k < ops.size /\ done.testBit k = true := fun k hk => by
      have := pM h2 k ((dp k _).2 hk)
      refine ⟨?_, this⟩
      rcases eM k ops.size with h | h
      · exact h
      · rw [Nat.testBit_lt_two_pow (Nat.lt_of_lt_of_le aJ (Nat.pow_le_pow_right (by omega) h))] at this; cases this
     simp only [gZ, bR, beq_iff_eq]
     refine ⟨?_, uH r _ _ (hm.set i) mI h4⟩
     have key : ∀ j, j ∈ Region.ready .any ops listed -> j = i := fun j hj => by
      obtain ⟨h0, oj, nZ, _⟩ := mem_ready.1 hj
      have hr := (oc hm nZ).1 hj
      have Dq : j < ops.size := (jb.1 nZ).1
      have hy : (ops.toList.map (rowOf ops))[j]? = some (rowOf ops oj) := by
       rw [kN]; simp [nZ]
      rcases vC h3 j _ hy with e | e | e
      · simpa using e
      · rw [cr] at e; rw [hr.1] at e; cases e
      · exfalso
        have : kQ (rowOf ops oj).a done = true := by
         unfold kQ
         have e2 : (rowOf ops oj).a &&& done = (rowOf ops oj).a := by
          apply Nat.eq_of_testBit_eq
          intro k
          rw [Nat.testBit_and]
          cases hk : (rowOf ops oj).a.testBit k with
          | false => rfl
          | true => rw [(hr.2 k ((dp k _).1 hk)).2]; rfl
         show Nat.beq ((rowOf ops oj).a &&& done) _ = true
         rw [e2]; simp
        rw [this] at e; cases e
     have kF := (oc hm ho).2 ⟨h1, sub⟩
     have hnd : (Region.ready .any ops listed).Nodup := (List.Pairwise.filter _ List.nodup_range)
     match hl : Region.ready .any ops listed with
     | [] => rw [hl] at kF; cases kF
     | [x] => rw [hl] at key; rw [key x (by simp)]
     | x :: y :: zs =>
       rw [hl] at key hnd
       have e1 := key x (by simp)
       have e2 := key y (by simp)
       subst e1; subst e2
       simp at hnd
   · cases h
end
def z7 : List Row -> List Row -> Bool
 | [], [] => true
 | x :: xs, y :: ys => Nat.beq x.d y.d && (Nat.beq x.l y.l && (Nat.beq x.a y.a && z7 xs ys))
 | _, _ => false
theorem yN : ∀ {a b : List Row}, z7 a b = true -> a = b
 | [], [], _ => rfl
 | x :: xs, y :: ys, h => by
   simp only [z7, bR] at h
   obtain ⟨h1, h2, h3, h4⟩ := h
   obtain ⟨a, b, c⟩ := x
   obtain ⟨a', b', c'⟩ := y
   have e1 : a = a' := eB h1
   have e2 : b = b' := eB h2
   have e3 : c = c' := eB h3
   rw [e1, e2, e3, yN h4]
 | [], _ :: _, h => by cases h
 | _ :: _, [], h => by cases h
structure Pl where
 steps : List (Bool × Nat)
 rows : List Row
def Ia (ops : Array Oper) (p : Pl) : Bool := z7 (ops.toList.map (rowOf ops)) p.rows && (uG p.rows ops.size p.steps 0 && Nat.beq p.steps.length ops.size)
theorem GN {ops : Array Oper} {p : Pl} (h : Ia ops p = true) : (gZ ops p.steps (Array.replicate ops.size false) && (p.steps.length == ops.size)) = true := by
 simp only [Ia, bR] at h
 obtain ⟨h1, h2, h3⟩ := h
 rw [<- yN h1] at h2
 simp only [bR, beq_iff_eq]
 refine ⟨uH _ _ 0 ⟨by simp, fun k hk => by simp [hk]⟩ (Nat.two_pow_pos _) h2, eB h3⟩
def n7 (ops : Array Oper) (rows : List Row) : List (Bool × Nat) -> Nat -> Option Nat
 | [], done => some done
 | (true, i) :: r, done => match rows[i]? with
   | some x => cond (!hasB done i && (kQ x.a done && ym done i x rows 0)) (n7 ops rows r (Nat.lor done (2 ^ i))) none
   | none => none
 | (false, i) :: r, done => match rows[i]? with
   | some x => cond (!hasB done i && (kQ x.a done && (yl done i rows 0 && !jy ops i))) (n7 ops rows r (Nat.lor done (2 ^ i))) none
   | none => none
section
variable {ops : Array Oper}
theorem uI : ∀ (df : List (Bool × Nat)) (listed : Array Bool) (done dn : Nat), fV ops.size listed done -> done < 2 ^ ops.size -> n7 ops (ops.toList.map (rowOf ops)) df done = some dn ->
 ∃ l, nf ops df listed = some l /\ fV ops.size l dn /\ dn < 2 ^ ops.size
 | [], listed, done, dn, hm, aJ, h => by
   simp only [n7, gD] at h
   subst h
   exact ⟨listed, rfl, hm, aJ⟩
 | (b, i) :: r, listed, done, dn, hm, aJ, h => by
   obtain ⟨x, hx⟩ : ∃ x, (ops.toList.map (rowOf ops))[i]? = some x := by
    cases b <;> simp only [n7] at h <;> split at h <;> first | exact ⟨_, by assumption⟩ | cases h
   obtain ⟨o, ho, rfl⟩ := uP hx
   have hi : i < ops.size := (jb.1 ho).1
   have mI : Nat.lor done (2 ^ i) < 2 ^ ops.size := Nat.or_lt_two_pow aJ (Nat.pow_lt_pow_right (by omega) hi)
   have sub : kQ (rowOf ops o).a done = true -> ∀ k, k ∈ vA o -> k < ops.size /\ done.testBit k = true := fun h2 k hk => by
    have := pM h2 k ((dp k _).2 hk)
    refine ⟨?_, this⟩
    rcases eM k ops.size with h | h
    · exact h
    · rw [Nat.testBit_lt_two_pow (Nat.lt_of_lt_of_le aJ (Nat.pow_le_pow_right (by omega) h))] at this; cases this
   cases b with
   | true =>
     simp only [n7, hx] at h
     cases hc : (!hasB done i && (kQ (rowOf ops o).a done && ym done i (rowOf ops o) (ops.toList.map (rowOf ops)) 0)) with
     | false => rw [hc] at h; cases h
     | true =>
       rw [hc, cond_true] at h
       simp only [bR, Bool.not_eq_true', lk] at hc
       obtain ⟨l, k1, k2, k3⟩ := uI r _ _ dn (hm.set i) mI h
       refine ⟨l, ?_, k2, k3⟩
       have DG : (Region.ready .any ops listed).contains i = true := by
        simp only [List.contains_iff_mem]; exact (oc hm ho).2 ⟨hc.1, sub hc.2.1⟩
       have Cv : Region.free .any ops listed i = true := Cl hm ho hc.2.2
       simp only [nf, DG, Cv, Bool.and_self, cond_true]
       exact k1
   | false =>
     simp only [n7, hx] at h
     cases hc : (!hasB done i && (kQ (rowOf ops o).a done && (yl done i (ops.toList.map (rowOf ops)) 0 && !jy ops i))) with
     | false => rw [hc] at h; cases h
     | true =>
       rw [hc, cond_true] at h
       simp only [bR, Bool.not_eq_true', lk] at hc
       obtain ⟨l, k1, k2, k3⟩ := uI r _ _ dn (hm.set i) mI h
       refine ⟨l, ?_, k2, k3⟩
       have sC : Region.ready .any ops listed = [i] := wH hm ho hc.1 (sub hc.2.1) hc.2.2.1
       have Jy : jy ops i = false := by simpa using hc.2.2.2
       simp only [nf, sC, Jy, dG, dt, Bool.and_self, cond_true]
       exact k1
def G5 (im : Nat) (done : Nat) : List Row -> Nat -> Bool
 | [], _ => true
 | y :: r, j => (hasB done j || (hasB im j || kQ im y.a)) && G5 im done r (j + 1)
def JS (ops : Array Oper) (rows : List Row) (I : lu) (done : Nat) : Bool := I.l.all fun i => !hasB done i && ((jZ ops I i).isSome && (match rows[i]? with | some x => kQ x.a done | none => false))
def increasing : List Nat -> Bool
 | a :: b :: l => Nat.blt a b && increasing (b :: l)
 | _ => true
def pt : List Int -> Bool
 | a :: b :: l => decide (a < b) && pt (b :: l)
 | _ => true
def yH (P : Program) (ops : Array Oper) (rows : List Row) (df : List (Bool × Nat)) (I : lu) (post : List (Bool × Nat)) : Bool :=
 z7 (ops.toList.map (rowOf ops)) rows && ((match n7 ops rows df 0 with
  | some dn => G5 (nx I.l) dn rows 0 && (JS ops rows I dn && uG rows ops.size post (Nat.lor dn (nx I.l)))
  | none => false) && (increasing I.l && (pt (I.l.map fun i => ((jZ ops I i).map (·.1)).getD 0) && (Nat.beq (df.length + (I.l.length + post.length)) ops.size && (match oB P I.t with | some (.i, _) => true | _ => false)))))
theorem vo : ∀ l : List Nat, increasing l = true -> l.Pairwise (· < ·)
 | [], _ => List.Pairwise.nil
 | [a], _ => List.pairwise_singleton ..
 | a :: b :: l, h => by
   simp only [increasing, bR] at h
   have zo : a < b := Nat.le_of_ble_eq_true h.1
   have ih := vo (b :: l) h.2
   refine List.Pairwise.cons (fun y hy => ?_) ih
   rcases dS.1 hy with rfl | hy
   · exact zo
   · exact Nat.lt_trans zo ((List.pairwise_cons.1 ih).1 y hy)
theorem tn : ∀ l : List Int, pt l = true -> l.Pairwise (· < ·)
 | [], _ => List.Pairwise.nil
 | [a], _ => List.pairwise_singleton ..
 | a :: b :: l, h => by
   simp only [pt, bR, c7] at h
   have ih := tn (b :: l) h.2
   refine List.Pairwise.cons (fun y hy => ?_) ih
   rcases dS.1 hy with rfl | hy
   · exact h.1
   · exact Int.lt_trans h.1 ((List.pairwise_cons.1 ih).1 y hy)
theorem Bn {im done : Nat} : ∀ {l : List Row} {j : Nat}, G5 im done l j = true -> ∀ k y, l[k]? = some y -> (done.testBit (j + k) = true \/ im.testBit (j + k) = true \/ kQ im y.a = true)
 | [], _, _, k, y, hy => by simp at hy
 | z :: r, j, h, k, y, hy => by
   simp only [G5, bR, jt, lk] at h
   cases k with
   | zero => simp at hy; subst hy; exact h.1
   | succ k =>
     have := Bn h.2 k y (by simpa using hy)
     rw [show j + (k + 1) = j + 1 + k by omega]; exact this
theorem fV.fj {n : Nat} : ∀ (l : List Nat) (listed : Array Bool) (done : Nat), fV ops.size listed done -> fV ops.size (Go.Rip.fj listed l) (Nat.lor done (nx l))
 | [], listed, done, h => by
   show fV ops.size listed (done ||| 0)
   rw [Nat.or_zero]; exact h
 | i :: l, listed, done, h => by
   have := fV.fj (n := n) l _ _ (h.set i)
   show fV ops.size (Go.Rip.fj (listed.setIfInBounds i true) l) (done ||| (2 ^ i ||| nx l))
   rw [<- Nat.or_assoc]; exact this
theorem FJ {P : Program} {rows : List Row} {df : List (Bool × Nat)} {I : lu} {post : List (Bool × Nat)} (h : yH P ops rows df I post = true) : r9 P ops df I post = true := by
 simp only [yH, bR] at h
 obtain ⟨h1, h2, h3, h4, h5, h6⟩ := h
 rw [<- yN h1] at h2
 split at h2
 · rename_i dn hd
   simp only [bR] at h2
   obtain ⟨b1, b2, b3⟩ := h2
   obtain ⟨l, k1, k2, k3⟩ := uI df (Array.replicate ops.size false) 0 dn ⟨by simp, fun k hk => by simp [hk]⟩ (Nat.two_pow_pos _) hd
   have aaz := vo _ h3
   have Yi := tn _ h4
   simp only [JS, ef, bR, Bool.not_eq_true', lk] at b2
   have uk : ∀ i ∈ I.l, ∃ o, ops[i]? = some o /\ kQ (rowOf ops o).a dn = true := fun i hi => by
    have := (b2 i hi).2.2
    split at this
    · rename_i x hx
      obtain ⟨o, ho, rfl⟩ := uP hx
      exact ⟨o, ho, this⟩
    · cases this
   have aJ : ∀ i ∈ I.l, i < ops.size := fun i hi => by
    obtain ⟨o, ho, _⟩ := uk i hi
    exact (jb.1 ho).1
   have him : nx I.l < 2 ^ ops.size := by
    have : ∀ l : List Nat, (∀ i ∈ l, i < ops.size) -> nx l < 2 ^ ops.size := fun l => by
     induction l with
     | nil => intro _; exact Nat.two_pow_pos _
     | cons i l ih => intro hh; exact Nat.or_lt_two_pow (Nat.pow_lt_pow_right (by omega) (hh i (by simp))) (ih fun j hj => hh j (by simp [hj]))
    exact this _ aJ
   have SY : ∀ {o : Oper} {m : Nat}, m < 2 ^ ops.size -> kQ (rowOf ops o).a m = true -> ∀ e ∈ o.after, Region.binds .any e = true -> m.testBit e.on = true := fun {o m} Jw hs e he hb =>
    pM hs e.on ((dp _ _).2 (qv.2 ⟨e, he, hb, rfl⟩))
   simp only [r9, k1, bR]
   refine ⟨⟨?_, uH post _ _ (fV.fj (n := 0) I.l l dn k2) (Nat.or_lt_two_pow k3 him) b3⟩, h5, h6⟩
   simp only [n0, Az, bR, ef, List.mem_range, jt, c7, Bool.not_eq_true']
   refine ⟨fun j hj => ?_, fun i hi => ?_, ?_, fun i hi => ⟨?_, (b2 i hi).2.1, ?_⟩, aaz.imp (fun h => Nat.ne_of_lt h), Yi.imp (fun h => Int.ne_of_lt h)⟩
   · obtain ⟨o, ho⟩ : ∃ o, ops[j]? = some o := ⟨ops[j], by simp [hj]⟩
     have hy : (ops.toList.map (rowOf ops))[j]? = some (rowOf ops o) := by rw [kN]; simp [ho]
     rcases Bn b1 j _ hy with h | h | h
     · left; rw [k2.get hj]; simpa using h
     · right; left
       have := (dp _ _).1 h
       simpa using this
     · right; right
       rw [ho]
       show (I.l.all fun i => o.after.toList.any fun e => Region.binds .any e && Nat.beq e.on i) = true
       rw [ef]
       intro i hi
       have := pM h i ((dp _ _).2 hi)
       obtain ⟨e, he, hb, zB⟩ := qv.1 ((dp _ _).1 this)
       rw [List.any_eq_true]
       exact ⟨e, by simpa using he, by simp [hb, zB]⟩
   · rw [k2.get (aJ i hi)]; exact (b2 i hi).1
   · rw [k2.1]; simp
   · show Nat.ble (i + 1) ops.size = true
     exact Nat.ble_eq_true_of_le (aJ i hi)
   · obtain ⟨o, ho, hs⟩ := uk i hi
     rw [ho]
     simp only [Cr, ef, jt, Bool.not_eq_true']
     intro e he
     cases hb : Region.binds .any e with
     | false => exact .inl rfl
     | true =>
       right
       have ht := SY k3 hs e (by simpa using he) hb
       have mI : e.on < ops.size := by
        rcases eM e.on ops.size with h | h
        · exact h
        · rw [Nat.testBit_lt_two_pow (Nat.lt_of_lt_of_le k3 (Nat.pow_le_pow_right (by omega) h))] at ht; cases ht
       rw [k2.get mI]; exact ht
 · cases h2
end
end Go.Rip
namespace Go.Rip
open Go.RowKit
inductive T (α : Type) where
 | e
 | n (l : T α) (v : Option α) (r : T α)
theorem wq {a b : Nat} (h : a ≠ b) : Nat.beq a b = false := by
 cases hb : Nat.beq a b with
 | false => rfl
 | true => exact absurd (eB hb) h
theorem HY {a b : Nat} (h : a = b) : Nat.beq a b = true := by subst h; exact Nat.beq_refl a
namespace T
variable {α : Type}
def get : T α -> Nat -> Option α
 | .e, _ => none
 | .n l v r, i => cond (Nat.beq i 0) v (cond (Nat.beq (i % 2) 1) (l.get (i / 2)) (r.get (i / 2 - 1)))
def uR : Nat -> T α -> Nat -> Option α -> T α
 | 0, t, _, _ => t
 | f + 1, .e, i, v => cond (Nat.beq i 0) (.n .e v .e) (cond (Nat.beq (i % 2) 1) (.n (uR f .e (i / 2) v) none .e) (.n .e none (uR f .e (i / 2 - 1) v)))
 | f + 1, .n l w r, i, v => cond (Nat.beq i 0) (.n l v r) (cond (Nat.beq (i % 2) 1) (.n (uR f l (i / 2) v) w r) (.n l w (uR f r (i / 2 - 1) v)))
def set (t : T α) (i : Nat) (v : Option α) : T α := uR (i + 1) t i v
theorem Ol : ∀ (f : Nat) (t : T α) (i j : Nat) (v : Option α), i < f -> (uR f t i v).get j = if j = i then v else t.get j := by
 intro f
 induction f with
 | zero => intro t i j v h; omega
 | succ f ih =>
   intro t i j v h
   have key : ∀ (l r : T α) (w : Option α), (cond (Nat.beq i 0) (.n l v r) (cond (Nat.beq (i % 2) 1) (.n (uR f l (i / 2) v) w r) (.n l w (uR f r (i / 2 - 1) v))) : T α).get j = if j = i then v else (T.n l w r).get j := fun l r w => by
    by_cases hi : i = 0
    · subst hi
      simp only [Nat.beq_refl, cond_true, get]
      by_cases hj : j = 0
      · subst hj; simp
      · have : Nat.beq j 0 = false := wq hj
        simp [this, hj]
    · have BA : Nat.beq i 0 = false := wq hi
      rw [BA, cond_false]
      by_cases h1 : i % 2 = 1
      · have hb : Nat.beq (i % 2) 1 = true := HY h1
        rw [hb, cond_true]
        simp only [get]
        by_cases hj : j = 0
        · subst hj
          have : (0 : Nat) ≠ i := fun e => hi e.symm
          simp [this]
        · have BB : Nat.beq j 0 = false := wq hj
          rw [BB, cond_false, cond_false]
          by_cases qQ : j % 2 = 1
          · have Dr : Nat.beq (j % 2) 1 = true := HY qQ
            rw [Dr, cond_true, cond_true, ih _ _ _ _ (by omega)]
            by_cases e : j = i
            · subst e; simp
            · rw [if_neg (by omega), if_neg e]
          · have Dr : Nat.beq (j % 2) 1 = false := wq qQ
            rw [Dr, cond_false, cond_false, if_neg (by omega)]
      · have hb : Nat.beq (i % 2) 1 = false := wq h1
        rw [hb, cond_false]
        simp only [get]
        by_cases hj : j = 0
        · subst hj
          have : (0 : Nat) ≠ i := fun e => hi e.symm
          simp [this]
        · have BB : Nat.beq j 0 = false := wq hj
          rw [BB, cond_false, cond_false]
          by_cases qQ : j % 2 = 1
          · have Dr : Nat.beq (j % 2) 1 = true := HY qQ
            rw [Dr, cond_true, cond_true, if_neg (by omega)]
          · have Dr : Nat.beq (j % 2) 1 = false := wq qQ
            rw [Dr, cond_false, cond_false, ih _ _ _ _ (by omega)]
            by_cases e : j = i
            · subst e; simp
            · rw [if_neg (by omega), if_neg e]
   cases t with
   | n l w r => exact key l r w
   | e =>
     have := key .e .e none
     simp only [uR]
     rw [this]
     congr 1
     simp only [get]
     cases Nat.beq j 0 <;> cases Nat.beq (j % 2) 1 <;> rfl
theorem qy (t : T α) (i j : Nat) (v : Option α) : (t.set i v).get j = if j = i then v else t.get j := Ol _ _ _ _ _ (by omega)
def GG : List α -> Nat -> T α -> T α
 | [], _, t => t
 | x :: xs, i, t => GG xs (i + 1) (t.set i (some x))
theorem Gb : ∀ (l : List α) (i : Nat) (t : T α) (j : Nat), (GG l i t).get j = if i <= j /\ j < i + l.length then l[j - i]? else t.get j
 | [], i, t, j => by simp [GG]; omega
 | x :: xs, i, t, j => by
   simp only [GG]
   rw [Gb xs (i + 1) _ j, qy]
   by_cases h1 : i + 1 <= j /\ j < i + 1 + xs.length
   · rw [if_pos h1, if_pos (by simp; omega)]
     have : j - i = (j - (i + 1)) + 1 := by omega
     rw [this]; simp
   · rw [if_neg h1]
     by_cases h2 : j = i
     · subst h2; simp
     · rw [if_neg h2, if_neg (by simp; omega)]
end T
def eC (t : T AV) : Env := ⟨fun i => (t.get i).getD (.aR [])⟩
theorem IZ (t : T AV) (d : Nat) (v : AV) : eC (t.set d (some v)) = (eC t).put d v := by
 simp only [eC, Env.put, Env.mk.injEq]
 funext i
 rw [T.qy]
 split <;> rfl
def wB (t : T AV) : Option Nat -> AV -> T AV
 | some d, v => t.set d (some v)
 | none, _ => t
theorem nS (t : T AV) (d : Option Nat) (v : AV) : eC (wB t d v) = (eC t).ep d v := by
 cases d with
 | none => rfl
 | some d => exact IZ t d v
theorem He (l : List AV) : eC (T.GG l 0 .e) = Env.gX l := by
 simp only [eC, Env.gX, Env.mk.injEq]
 funext i
 rw [T.Gb]
 by_cases h : i < l.length
 · rw [if_pos (by omega)]; simp [sJ]
 · rw [if_neg (by omega)]
   simp [T.get, sJ, mN (Nat.le_of_not_lt h)]
structure ES where
 live : T Live
 n : Nat
def bD (e : ES) : St := ⟨fun b => e.live.get b, some e.n⟩
def ES.set (e : ES) (b : Nat) (x : Live) : ES := ⟨e.live.set b (some x), e.n⟩
def ES.del (e : ES) (b : Nat) : ES := ⟨e.live.set b none, e.n⟩
def ES.pQ (e : ES) : Option Nat -> ES
 | some b => e.del b
 | none => e
def ES.new (e : ES) (x : Live) : ES := ⟨e.live.set e.n (some x), e.n + 1⟩
theorem kO (e : ES) (b : Nat) (x : Live) : bD (e.set b x) = (bD e).set b x := by
 simp only [bD, ES.set, St.set, St.mk.injEq, and_true]
 funext y; rw [T.qy]
theorem yQ (e : ES) (b : Nat) : bD (e.del b) = (bD e).del b := by
 simp only [bD, ES.del, St.del, St.mk.injEq, and_true]
 funext y; rw [T.qy]
theorem No (e : ES) (b : Option Nat) : bD (e.pQ b) = (bD e).pQ b := by
 cases b with
 | none => rfl
 | some b => exact yQ e b
theorem pd (e : ES) (x : Live) : bD (e.new x) = (bD e).new e.n x := by
 simp only [bD, ES.new, St.new, St.mk.injEq, Option.map_some, and_true]
 funext y; rw [T.qy]
def Oc : Fn -> Fn -> Bool
 | .func a, .func b => Nat.beq a b
 | _, _ => false
theorem RV {a b : Fn} (h : Oc a b = true) : a = b := by
 cases a <;> cases b <;> simp only [Oc, bo] at h
 rw [eB h]
def Hf : iQ -> iQ -> Bool
 | .full, .full => true
 | .own a, .own b => Nat.beq a b
 | .hX, .hX => true
 | _, _ => false
theorem Ob {a b : iQ} (h : Hf a b = true) : a = b := by
 cases a <;> cases b <;> simp only [Hf, bo] at h <;> first
  | rfl
  | rw [eB h]
mutual
def gJ : AV -> AV -> Bool
 | .bool a, .bool b => a == b
 | .int k a, .int k' b => decide (k = k') && decide (a = b)
 | .str a, .str b => decide (a = b)
 | .a8, .a8 | .al, .al | .ke, .ke | .dh, .dh | .cW, .cW => true
 | .box a i, .box b j => Nat.beq a b && Nat.beq i j
 | .ck l, .ck l' => mG l l'
 | .vec n c l, .vec n' c' l' => Nat.beq n n' && Hf c c' && mG l l'
 | .ms b o n z e, .ms b' o' n' z' e' => Nat.beq b b' && Nat.beq o o' && Nat.beq n n' && Nat.beq z z' && Nat.beq e e'
 | .mp a, .mp b => Nat.beq a b
 | .eR ks vs, .eR ks' vs' => mG ks ks' && mG vs vs'
 | .func f a b, .func f' a' b' => Oc f f' && mG a a' && mG b b'
 | .iface t v, .iface t' v' => Nat.beq t t' && gJ v v'
 | .agg l, .agg l' => mG l l'
 | .aR l, .aR l' => mG l l'
 | .pN a, .pN b => Nat.beq a b
 | .it a, .it b => Nat.beq a b
 | .any, .any => true
 | _, _ => false
def mG : List AV -> List AV -> Bool
 | [], [] => true
 | x :: xs, y :: ys => gJ x y && mG xs ys
 | _, _ => false
end
mutual
theorem ta : ∀ {a b : AV}, gJ a b = true -> a = b
 | .bool a, b, h => by cases b <;> simp only [gJ, bo] at h; simpa using h
 | .int k a, b, h => by cases b <;> simp only [gJ, bo] at h; simpa using h
 | .str a, b, h => by cases b <;> simp only [gJ, bo] at h; simpa using h
 | .a8, b, h => by cases b <;> simp only [gJ, bo] at h; rfl
 | .al, b, h => by cases b <;> simp only [gJ, bo] at h; rfl
 | .ke, b, h => by cases b <;> simp only [gJ, bo] at h; rfl
 | .dh, b, h => by cases b <;> simp only [gJ, bo] at h; rfl
 | .cW, b, h => by cases b <;> simp only [gJ, bo] at h; rfl
 | .box a i, b, h => by cases b <;> simp only [gJ, bo, bR] at h; rw [eB h.1, eB h.2]
 | .ck l, b, h => by cases b <;> simp only [gJ, bo] at h; rw [iJ h]
 | .vec n c l, b, h => by cases b <;> simp only [gJ, bo, bR] at h; rw [eB h.1.1, Ob h.1.2, iJ h.2]
 | .ms b o n z e, b', h => by
   cases b' <;> simp only [gJ, bo, bR] at h
   rw [eB h.1.1.1.1, eB h.1.1.1.2, eB h.1.1.2, eB h.1.2, eB h.2]
 | .mp a, b, h => by cases b <;> simp only [gJ, bo] at h; rw [eB h]
 | .eR ks vs, b, h => by cases b <;> simp only [gJ, bo, bR] at h; rw [iJ h.1, iJ h.2]
 | .func f a b, b', h => by cases b' <;> simp only [gJ, bo, bR] at h; rw [RV h.1.1, iJ h.1.2, iJ h.2]
 | .iface t v, b, h => by cases b <;> simp only [gJ, bo, bR] at h; rw [eB h.1, ta h.2]
 | .agg l, b, h => by cases b <;> simp only [gJ, bo] at h; rw [iJ h]
 | .aR l, b, h => by cases b <;> simp only [gJ, bo] at h; rw [iJ h]
 | .pN a, b, h => by cases b <;> simp only [gJ, bo] at h; rw [eB h]
 | .it a, b, h => by cases b <;> simp only [gJ, bo] at h; rw [eB h]
 | .any, b, h => by cases b <;> simp only [gJ, bo] at h; rfl
theorem iJ : ∀ {a b : List AV}, mG a b = true -> a = b
 | [], b, h => by cases b <;> simp only [mG, bo] at h; rfl
 | x :: xs, b, h => by cases b <;> simp only [mG, bo, bR] at h; rw [ta h.1, iJ h.2]
end
def C8 : Option Live -> Option Live -> Bool
 | some (.box l), some (.box l') => mG l l'
 | some (.mp a b), some (.mp a' b') => mG a a' && mG b b'
 | _, _ => false
theorem I0 {a b : Option Live} (h : C8 a b = true) : a = b := by
 unfold C8 at h
 split at h
 · rw [iJ h]
 · simp only [bR] at h; rw [iJ h.1, iJ h.2]
 · cases h
end Go.Rip
namespace Go.Rip
open Go.RowKit
structure gk where
 C : cw
 mu : Nat -> List Nat
 pf : Nat -> Bool
 sm : Nat -> List AV -> Option AV
 Rk : Nat -> List AV -> ES -> Option (AV × ES)
 tr : Nat -> Bool
 ft : TypeId
 ins : Nat -> Nat -> Option (List Row × List (Bool × Nat) × lu × List (Bool × Nat)) := fun _ _ => none
abbrev KR := cD -> ES -> Bool
abbrev KC := Ex -> T AV -> ES -> Bool
abbrev p9 := Nat -> List AV -> ES -> KR -> Bool
def rK (k kp : AV -> ES -> Bool) : KR
 | .ret v, e => k v e
 | .panic v, e => kp v e
def xm (cf cy : p9) (e : ES) : au -> (AV -> ES -> Bool) -> (AV -> ES -> Bool) -> Bool
 | .val v, k, _ => k v e
 | .jQ v b x, k, _ => k v (e.set b x)
 | .new kd del x, k, _ => k (kd.at e.n) ((e.pQ del).new x)
 | .jz b l, k, _ => l.all fun p => k p.1 (e.set b p.2)
 | .enter f args, k, kp => cf f args e (rK k kp)
 | .yield o args, k, kp => cy o args e (rK k kp)
 | .panic v, _, kp => kp v e
 | @au.cond p d r, k, kp => (@decide p d) && xm cf cy e r k kp
 | .bad, _, _ => false
def zg (V : gk) (cf cy : p9) (mu : List Nat) (ops : Array Oper) : List Oper -> T AV -> ES -> (T AV -> ES -> Bool) -> (AV -> ES -> Bool) -> Bool
 | [], ρ, e, k, _ => k ρ e
 | o :: rest, ρ, e, k, kp => match gd ops (eC ρ) o.guard with
   | .bool true => xm cf cy e (gY V.C (nE mu o) o.op (eC ρ) (bD e)) (fun v e' => zg V cf cy mu ops rest (wB ρ o.dst v) e' k kp) kp
   | .bool false => zg V cf cy mu ops rest (wB ρ o.dst (.aR [])) e k kp
   | _ => false
def GZ (V : gk) : au -> Option AV
 | .val v => some v
 | @au.cond p d r => cond (@decide p d) (GZ V r) none
 | .enter f args => V.sm f args
 | _ => none
def Il (B : List Nat) (e0 e : ES) : Bool := B.all fun b => C8 (e.live.get b) (e0.live.get b)
def AK (C : cw) (B : List Nat) (ρ : Env) (op : Op) : Bool := op.operands.toList.all fun x => (cB (ρ.ev C x)).all fun b => B.any fun c => Nat.beq c b
def mT (V : gk) (cf cy : p9) (mu : List Nat) (ops : Array Oper) (B : List Nat) (e0 : ES) : List (Bool × Nat) -> T AV -> ES -> (T AV -> ES -> Bool) -> (AV -> ES -> Bool) -> Bool
 | [], ρ, e, k, _ => k ρ e
 | (true, i) :: r, ρ, e, k, kp => match ops[i]? with
   | none => false
   | some o => match gd ops (eC ρ) o.guard with
     | .bool true => quiet o.op && (!mw o.op || AK V.C B (eC ρ) o.op) && (match GZ V (gY V.C (nE mu o) o.op (eC ρ) (bD e0)) with
       | some v => mT V cf cy mu ops B e0 r (wB ρ o.dst v) e k kp
       | none => false)
     | .bool false => mT V cf cy mu ops B e0 r (wB ρ o.dst (.aR [])) e k kp
     | _ => false
 | (false, i) :: r, ρ, e, k, kp => match ops[i]? with
   | none => false
   | some o => match gd ops (eC ρ) o.guard with
     | .bool true => xm cf cy e (gY V.C (nE mu o) o.op (eC ρ) (bD e)) (fun v e' => (Il B e0 e' || jy ops i) && mT V cf cy mu ops B e0 r (wB ρ o.dst v) e' k kp) kp
     | .bool false => mT V cf cy mu ops B e0 r (wB ρ o.dst (.aR [])) e k kp
     | _ => false
def Kx (V : gk) (o : Oper) : Bool := match o.op with
 | .call c => match c.callee with
   | .value (.func f) => V.pf f
   | .value _ => false
   | _ => quiet o.op
 | op => quiet op
def wo (V : gk) (ops : Array Oper) : Nat -> Array Bool -> List (Bool × Nat)
 | 0, _ => []
 | n + 1, listed => match (Region.ready .any ops listed).find? fun i => match ops[i]? with | some o => Kx V o | none => false with
   | some i => (true, i) :: wo V ops n (listed.setIfInBounds i true)
   | none => match Region.ready .any ops listed with
     | i :: _ => (false, i) :: wo V ops n (listed.setIfInBounds i true)
     | [] => []
def preB (V : gk) (mu : List Nat) (e0 : ES) : List Oper -> T AV -> List Nat -> List Nat
 | [], _, B => B
 | o :: r, ρ, B => preB V mu e0 r (wB ρ o.dst (cond (Kx V o) ((GZ V (gY V.C (nE mu o) o.op (eC ρ) (bD e0))).getD .any) .any)) (cond (mw o.op) (o.op.operands.toList.flatMap (fun x => cB ((eC ρ).ev V.C x)) ++ B) B)
def HT (P : Program) (ty : TypeId) (p : AV) (U : St) : Option AV := match rR P ty p U with
 | .val v => some v
 | @au.cond q d (.val v) => cond (@decide q d) (some v) none
 | _ => none
def yM (P : Program) (ρ : Env) (U : St) : List ResultVar -> Option (List AV)
 | [] => some []
 | .tmp t :: rs => (yM P ρ U rs).map fun vs => ρ.get t :: vs
 | .cell t ty :: rs => match HT P ty (ρ.get t) U with
   | some v => (yM P ρ U rs).map fun vs => v :: vs
   | none => none
abbrev rB := Nat -> List Nat -> Nat -> Ro -> Code -> T AV -> ES -> KC -> Bool
def N7 (P : Program) (fn : Func) (k : KR) : KC := fun ex ρ e => match ex with
 | .normal | .ret => match yM P (eC ρ) (bD e) fn.results.toList with
   | some vs => k (.ret (sP vs)) e
   | none => false
 | .panic x => k (.panic x) e
 | .exit _ => false
def EI (ft : TypeId) (a : Nat) (k : KR) : KR
 | .ret v, e => match (bD e).box a, (bD e).box (a + 1), (bD e).box (a + 2) with
   | some [_], some [_], some [_] => v.scalar && k (.ret (.aR [v, .int .i64 0, .bool true])) (((e.set a (.box [v])).set (a + 1) (.box [.int .i64 0])).set (a + 2) (.box [.bool true]))
   | _, _, _ => false
 | .panic x, e => match x, (bD e).box a, (bD e).box (a + 1), (bD e).box (a + 2) with
   | .iface t (.agg [.int .i64 at_]), some [_], some [_], some [_] => Nat.beq t ft && k (.ret (.aR [.a8, .int .i64 at_, .bool false])) ((((e.new (.box [.int .i64 at_])).set a (.box [.a8])).set (a + 1) (.box [.int .i64 at_])).set (a + 2) (.box [.bool false]))
   | _, _, _, _ => false
def Cs (V : gk) (ev : rB) : p9 := fun f args e k =>
 match V.sm f args with
 | some x => k (.ret x) e
 | none => match V.Rk f args e with
   | some (x, e') => k (.ret x) e'
   | none => match V.C.P.funcs[f]? with
     | some fn => match fn.body with
       | some c => Nat.ble args.length fn.ntmps && ev fn.ntmps (V.mu f) f .fn c (T.GG args 0 .e) e (N7 V.C.P fn k)
       | none => false
     | none => false
def WN (e : ES) : ES := ((e.new (.box [.a8])).new (.box [.int .i64 0])).new (.box [.bool false])
def qe (V : gk) (ev : rB) : p9 := fun f args e k =>
 cond (V.tr f) (match args with
  | [_, .func (.func g) first cap] => eg V.C.P g && Cs V ev g (first ++ cap) (WN e) (EI V.ft e.n k)
  | _ => false) (Cs V ev f args e k)
def endRound (o : Nat) (k : KR) : KC := fun ex _ e => match (bD e).loop o with
 | some L => match ex with
   | .normal => k (.ret (.bool true)) (e.set o (.loop { L with state := .ready, eT := none }))
   | .ret => k (.ret (.bool false)) (e.set o (.loop { L with state := .done, eT := some .ret }))
   | .exit id => k (.ret (.bool false)) (e.set o (.loop { L with state := .done, eT := some (.exit id) }))
   | .panic _ => false
 | none => false
def isReady : LoopState -> Bool
 | .ready => true
 | _ => false
def JO : LoopState -> Bool
 | .busy => true
 | _ => false
def pe (f : Nat -> AV) : Nat -> T AV -> T AV
 | 0, t => t
 | n + 1, t => pe f n (t.set n (some (f n)))
def tR (V : gk) (ev : rB) : p9 := fun o args e k =>
 match (bD e).loop o with
 | some L => Nat.beq args.length L.params.size && L.params.toList.all (fun t => Nat.blt t L.nt) &&
   ev L.nt (V.mu L.tag) L.tag (.round o) L.assign (pe (uJ L.ρ L.params.toList args) L.nt .e) e (fun ex ρ e => match ex with
    | .normal => match (bD e).loop o with
      | some L' => isReady L'.state && ev L.nt (V.mu L.tag) L.tag (.round o) L.body ρ (e.set o (.loop { L' with state := .busy })) (endRound o k)
      | none => false
    | _ => false)
 | none => false
def C7 (o : Nat) (ρ : T AV) (k : KC) : KR
 | .ret _, e => match (bD e).loop o with
   | some L => !JO L.state && (match L.eT with
     | none => k .normal ρ (e.del o)
     | some .ret => k .ret ρ (e.del o)
     | some (.exit id) => k (.exit id) ρ (e.del o)
     | _ => false)
   | none => false
 | .panic x, e => k (.panic x) .e e
def OG (V : gk) (ops : Array Oper) (B : List Nat) (I : lu) (ρ : T AV) (e : ES) (k : T AV -> ES -> Bool) : Bool := match (eC ρ).get I.m with
 | .mp id => (match (bD e).mp id with | some ([], []) => true | _ => false) && (B.all (fun b => !Nat.beq b id) && k ρ (e.set id (.mp (mY I.kk (ln V.C ops (eC ρ) I) ([], [])).1 (mY I.kk (ln V.C ops (eC ρ) I) ([], [])).2)))
 | _ => false
def lC (V : gk) : Nat -> rB
 | 0 => fun _ _ _ _ _ _ _ _ => false
 | n + 1 => fun nt mu tag ro c ρ e k =>
   match c with
   | .skip => k .normal ρ e
   | .exit id => k (.exit id) ρ e
   | .ret => k .ret ρ e
   | .seq a b => lC V n nt mu tag ro a ρ e fun ex ρ e => match ex with
     | .normal => lC V n nt mu tag ro b ρ e k
     | ex => k ex ρ e
   | .cond x a b => match (eC ρ).ev V.C x with
     | .bool true => lC V n nt mu tag ro a ρ e k
     | .bool false => lC V n nt mu tag ro b ρ e k
     | _ => false
   | .block id a => lC V n nt mu tag ro a ρ e fun ex ρ e => match ex with
     | .exit xW => cond (Nat.beq xW id) (k .normal ρ e) (k (.exit xW) ρ e)
     | ex => k ex ρ e
   | .loop a => lC V n nt mu tag ro a ρ e fun ex ρ e => match ex with
     | .normal => lC V n nt mu tag ro (.loop a) ρ e k
     | ex => k ex ρ e
   | .region _ ops false => kL nt ops && zg V (qe V (lC V n)) (tR V (lC V n)) mu ops ops.toList ρ e (fun ρ e => k .normal ρ e) (fun x e => k (.panic x) .e e)
   | .region id ops true => match V.ins tag id with
     | none => kL nt ops && (gZ ops (wo V ops ops.size (Array.replicate ops.size false)) (Array.replicate ops.size false) && ((wo V ops ops.size (Array.replicate ops.size false)).length == ops.size)) &&
     mT V (qe V (lC V n)) (tR V (lC V n)) mu ops (preB V mu e ops.toList ρ []) e (wo V ops ops.size (Array.replicate ops.size false)) ρ e (fun ρ e => k .normal ρ e) (fun x e => k (.panic x) .e e)
     | some (rows, df, I, post) => kL nt ops && (yH V.C.P ops rows df I post && mT V (qe V (lC V n)) (tR V (lC V n)) mu ops (preB V mu e ops.toList ρ []) e df ρ e (fun dH e' => OG V ops (preB V mu e ops.toList ρ []) I dH e' (fun dH e' => mT V (qe V (lC V n)) (tR V (lC V n)) mu ops (preB V mu e ops.toList ρ []) e post dH e' (fun ρ e => k .normal ρ e) (fun x e => k (.panic x) .e e))) (fun x e => k (.panic x) .e e))
   | .rangeFunc f ps assign body => match ro, (eC ρ).ev V.C f with
     | .fn, .func (.func iq) first cap => eg V.C.P iq && qe V (lC V n) iq (first ++ [.pN e.n] ++ cap) (e.new (.loop ⟨(eC ρ).get, nt, ps, assign, body, .ready, none, tag⟩)) (C7 e.n ρ k)
     | _, _ => false
   | _ => false
def kR (k : KR) : cD -> St -> Prop := fun r U => ∃ e, U = bD e /\ k r e = true
def kA (k : AV -> ES -> Bool) : AV -> St -> Prop := fun v U => ∃ e, U = bD e /\ k v e = true
def kE (k : T AV -> ES -> Bool) : Env -> St -> Prop := fun ρ U => ∃ t e, ρ = eC t /\ U = bD e /\ k t e = true
def kC (k : KC) : Ex -> Env -> St -> Prop
 | .panic x, _, U => ∃ e, U = bD e /\ k (.panic x) .e e = true
 | ex, ρ, U => ∃ t e, ρ = eC t /\ U = bD e /\ k ex t e = true
def EJ (ft : TypeId) (a b c : Nat) (R : cD -> St -> Prop) : cD -> St -> Prop
 | .ret v, U => v.scalar = true /\ (∃ x, U.box a = some [x]) /\ (∃ x, U.box b = some [x]) /\ (∃ x, U.box c = some [x]) /\ R (.ret (.aR [v, .int .i64 0, .bool true])) (((U.bU a [v]).bU b [.int .i64 0]).bU c [.bool true])
 | .panic x, U => ∃ at_, x = .iface ft (.agg [.int .i64 at_]) /\ (∃ x, U.box a = some [x]) /\ (∃ x, U.box b = some [x]) /\ (∃ x, U.box c = some [x]) /\
    ∀ q, U.cY q -> R (.ret (.aR [.a8, .int .i64 at_, .bool false])) ((((U.new q (.box [.int .i64 at_])).bU a [.a8]).bU b [.int .i64 at_]).bU c [.bool false])
def FX (C : cw) (ft : TypeId) (f : Nat) : Prop := ∀ r g first cap U R, eg C.P g = true ->
 (∀ a b c, U.cY a -> (U.new a (.box [.a8])).cY b -> ((U.new a (.box [.a8])).new b (.box [.int .i64 0])).cY c ->
   af C g (first ++ cap) (((U.new a (.box [.a8])).new b (.box [.int .i64 0])).new c (.box [.bool false])) (EJ ft a b c R)) -> af C f [r, .func (.func g) first cap] U R
structure oW (V : gk) : Prop where
 sm : ∀ f args x, V.sm f args = some x -> Pure V.C f args x
 Rk : ∀ f args e x e', V.Rk f args e = some (x, e') -> ∀ R, R (.ret x) (bD e') -> af V.C f args (bD e) R
 tr : ∀ f, V.tr f = true -> FX V.C V.ft f
 mixed : V.C.P.follows .mixedOrders = true
def vu (V : gk) (cf : p9) : Prop := ∀ f args e k, cf f args e k = true -> af V.C f args (bD e) (kR k)
def wT (V : gk) (cy : p9) : Prop := ∀ o args e k, cy o args e k = true -> jW V.C o args (bD e) (kR k)
def sX (V : gk) (ev : rB) : Prop := ∀ nt mu tag ro c ρ e k, ev nt mu tag ro c ρ e k = true -> bw V.C nt ro c (kC k) (eC ρ) (bD e)
theorem qw {e : ES} {b : Nat} (h : (bD e).cY b) : b = e.n := h.2 _ rfl
theorem IV (e : ES) (d : Option Nat) : (e.pQ d).n = e.n := by cases d <;> rfl
section
variable {V : gk} {cf cy : p9}
theorem yO (hf : vu V cf) (hy : wT V cy) {e : ES} {k kp : AV -> ES -> Bool} : ∀ (r : au), xm cf cy e r k kp = true -> r.wp V.C (bD e) (kA k) (kA kp)
 | .val v, h => ⟨e, rfl, h⟩
 | .jQ v b x, h => ⟨e.set b x, (kO e b x).symm, h⟩
 | .new kd del x, h => fun b hb => by
   rw [<- No] at hb ⊢
   have := qw hb
   rw [IV] at this
   subst this
   exact ⟨(e.pQ del).new x, by rw [pd, IV], h⟩
 | .jz b l, h => fun p hp => by
   simp only [xm, ef] at h
   exact ⟨e.set b p.2, (kO e b p.2).symm, h p hp⟩
 | .enter f args, h => (hf f args e _ h).mono fun r U hr => by cases r <;> exact hr
 | .yield o args, h => (hy o args e _ h).mono fun r U hr => by cases r <;> exact hr
 | .panic v, h => ⟨e, rfl, h⟩
 | @au.cond p d r, h => by
   simp only [xm, bR] at h
   exact ⟨@of_decide_eq_true p d h.1, yO hf hy r h.2⟩
 | .bad, h => by cases h
theorem R0 {ops : Array Oper} {B : List Nat} {I : lu} {k : T AV -> ES -> Bool} (ρ : T AV) (e : ES) (h : OG V ops B I ρ e k = true) : HD V.C ops B I (kE k) (eC ρ) (bD e) := by
 unfold OG at h
 split at h
 · rename_i id hid
   simp only [bR, ef, Bool.not_eq_true'] at h
   obtain ⟨h1, h2, h3⟩ := h
   split at h1
   · rename_i Dx
     refine ⟨id, hid, Dx, fun hm => ?_, ρ, _, rfl, (kO e id _).symm, h3⟩
     have := h2 id hm
     simp at this
   · cases h1
 · cases h
theorem yr (hf : vu V cf) (hy : wT V cy) {mu : List Nat} {ops : Array Oper} {k : T AV -> ES -> Bool} {kp : AV -> ES -> Bool} : ∀ (l : List Oper) (ρ : T AV) (e : ES), zg V cf cy mu ops l ρ e k kp = true ->
 mM V.C mu ops l (eC ρ) (bD e) (kE k) (kA kp)
 | [], ρ, e, h => ⟨ρ, e, rfl, rfl, h⟩
 | o :: rest, ρ, e, h => by
   simp only [zg] at h
   simp only [mM]
   split at h
   · rename_i hg
     rw [hg]
     refine ⟨fun _ => ?_, fun h => (by cases h)⟩
     refine au.wp_mono ?_ _ (yO hf hy _ h)
     rintro v U ⟨e', rfl, hk⟩
     have := yr hf hy rest _ e' hk
     rw [nS] at this
     exact this
   · rename_i hg
     rw [hg]
     refine ⟨fun h => (by cases h), fun _ => ?_⟩
     have := yr hf hy rest _ e h
     rw [nS] at this
     exact this
   · cases h
theorem NN (hV : oW V) : ∀ (r : au) (v : AV), GZ V r = some v -> r.yv V.C v
 | .val u, v, h => by simp only [GZ, gD] at h; exact h
 | @au.cond p d r, v, h => by
   simp only [GZ] at h
   cases hd : @decide p d with
   | false => rw [hd] at h; cases h
   | true => rw [hd] at h; exact ⟨@of_decide_eq_true p d hd, NN hV r v h⟩
 | .enter f args, v, h => hV.sm f args v h
 | .jQ _ _ _, v, h => by cases h
 | .new _ _ _, v, h => by cases h
 | .jz _ _, v, h => by cases h
 | .yield _ _, v, h => by cases h
 | .panic _, v, h => by cases h
 | .bad, v, h => by cases h
theorem O0 {B : List Nat} {e0 e : ES} (h : Il B e0 e = true) : cU B (bD e0) (bD e) := fun b hb => by
 unfold Il at h
 rw [ef] at h
 exact I0 (h b hb)
theorem Hv {C : cw} {B : List Nat} {ρ : Env} {op : Op} (h : AK C B ρ op = true) : ∀ x ∈ op.operands.toList, ∀ b ∈ cB (ρ.ev C x), b ∈ B := fun x hx b hb => by
 unfold AK at h
 rw [ef] at h
 have := h x hx
 rw [ef] at this
 have := this b hb
 rw [List.any_eq_true] at this
 obtain ⟨c, hc, he⟩ := this
 rw [<- eB he]; exact hc
theorem lO (hV : oW V) (hf : vu V cf) (hy : wT V cy) {mu : List Nat} {ops : Array Oper} {B : List Nat} {e0 : ES} {k : T AV -> ES -> Bool} {kp : AV -> ES -> Bool} : ∀ (l : List (Bool × Nat)) (ρ : T AV) (e : ES), mT V cf cy mu ops B e0 l ρ e k kp = true ->
 kM V.C mu ops B (bD e0) (kE k) (kA kp) l (eC ρ) (bD e)
 | [], ρ, e, h => ⟨ρ, e, rfl, rfl, h⟩
 | (true, i) :: r, ρ, e, h => by
   simp only [mT] at h
   split at h
   · cases h
   · rename_i o ho
     split at h
     · rename_i hg
       simp only [bR, jt, Bool.not_eq_true'] at h
       obtain ⟨⟨h1, h2⟩, h3⟩ := h
       split at h3
       · rename_i v hv
         refine ⟨o, v, ho, .inl ⟨hg, h1, fun DH => ?_, NN hV _ _ hv⟩, ?_⟩
         · rcases h2 with h2 | h2
           · rw [DH] at h2; cases h2
           · exact Hv h2
         · have := lO hV hf hy r _ e h3
           rw [nS] at this
           exact this
       · cases h3
     · rename_i hg
       refine ⟨o, .aR [], ho, .inr ⟨hg, rfl⟩, ?_⟩
       have := lO hV hf hy r _ e h
       rw [nS] at this
       exact this
     · cases h
 | (false, i) :: r, ρ, e, h => by
   simp only [mT] at h
   simp only [kM, mz]
   split at h
   · cases h
   · rename_i o ho
     try rw [ho]
     try dsimp only
     split at h
     · rename_i hg
       rw [hg]
       refine ⟨fun _ => ?_, fun h => (by cases h)⟩
       refine au.wp_mono ?_ _ (yO hf hy _ h)
       rintro v U ⟨e', rfl, hk⟩
       simp only [bR] at hk
       refine ⟨?_, ?_⟩
       · rw [jt] at hk
         rcases hk.1 with h | h
         · exact .inr (O0 h)
         · exact .inl h
       have := lO hV hf hy r _ e' hk.2
       rw [nS] at this
       exact this
     · rename_i hg
       rw [hg]
       refine ⟨fun h => (by cases h), fun _ => ?_⟩
       have := lO hV hf hy r _ e h
       rw [nS] at this
       exact this
     · cases h
theorem rX {C : cw} {mu : List Nat} {ops : Array Oper} {K K' : Env -> St -> Prop} {Kp yY : AV -> St -> Prop} (hk : ∀ ρ U, K ρ U -> K' ρ U) (hp : ∀ v U, Kp v U -> yY v U) : ∀ (l : List Oper) {ρ : Env} {U : St}, mM C mu ops l ρ U K Kp -> mM C mu ops l ρ U K' yY
 | [], _, _, h => hk _ _ h
 | o :: rest, ρ, U, h => by
   simp only [mM] at h ⊢
   have wpp : ∀ (r : au) {U : St} {X : AV -> St -> Prop}, r.wp C U X Kp -> r.wp C U X yY := fun r => by
    induction r with
    | val _ => exact fun h => h
    | jQ _ _ _ => exact fun h => h
    | new _ _ _ => exact fun h => h
    | jz _ _ => exact fun h => h
    | enter f args => exact fun h => h.mono fun r U hr => by cases r <;> first | exact hr | exact hp _ _ hr
    | yield o args => exact fun h => h.mono fun r U hr => by cases r <;> first | exact hr | exact hp _ _ hr
    | panic v => exact fun h => hp _ _ h
    | cond p r ih => exact fun h => ⟨h.1, ih h.2⟩
    | bad => exact fun h => h
   cases hg : gd ops ρ o.guard <;> rw [hg] at h <;> simp only [aq] at h ⊢
   exact ⟨fun e => au.wp_mono (fun v U hv => rX hk hp rest hv) _ (wpp _ (h.1 e)), fun e => rX hk hp rest (h.2 e)⟩
theorem OP {P : Program} {ty : TypeId} {p v : AV} {U : St} (h : HT P ty p U = some v) {k : AV -> Prop} (hk : k v) : xg P ty p U k := by
 unfold HT at h
 unfold xg
 split at h
 · rename_i u hu
   cases h
   first | exact hk | (rw [hu]; exact hk)
 · rename_i q d u hu
   cases hd : @decide q d with
   | false => rw [hd] at h; cases h
   | true =>
     rw [hd] at h; cases h
     first | exact ⟨@of_decide_eq_true q d hd, hk⟩ | (rw [hu]; exact ⟨@of_decide_eq_true q d hd, hk⟩)
 · cases h
theorem xl {P : Program} {ρ : Env} {U : St} : ∀ (rs : List ResultVar) (vs : List AV) (k : List AV -> Prop), yM P ρ U rs = some vs -> k vs -> sL P ρ U rs k
 | [], vs, k, h, hk => by simp only [yM, gD] at h; subst h; exact hk
 | .tmp t :: rs, vs, k, h, hk => by
   simp only [yM, mO] at h
   obtain ⟨us, hu, rfl⟩ := h
   exact xl rs us _ hu hk
 | .cell t ty :: rs, vs, k, h, hk => by
   simp only [yM] at h
   split at h
   · rename_i v hv
     simp only [mO] at h
     obtain ⟨us, hu, rfl⟩ := h
     exact OP hv (xl rs us _ hu hk)
   · cases h
theorem C1 (hV : oW V) {ev : rB} (he : sX V ev) : vu V (Cs V ev) := fun f args e k h => by
 simp only [Cs] at h
 split at h
 · rename_i x hx
   exact hV.sm f args x hx _ _ ⟨e, rfl, h⟩
 · split at h
   · rename_i x e' hx
     exact hV.Rk f args e x e' hx _ ⟨e', rfl, h⟩
   · split at h
     · rename_i fn hfn
       split at h
       · rename_i c hc
         simp only [bR] at h
         refine af.GH hfn hc (Nat.le_of_ble_eq_true h.1) ?_
         have := he _ _ _ _ _ _ _ _ h.2
         rw [He] at this
         refine this.mono ?_
         intro ex ρ U hc
         cases ex with
         | normal =>
           obtain ⟨t, e', rfl, rfl, hk⟩ := hc
           simp only [N7] at hk
           split at hk
           · rename_i vs wg
             exact xl _ vs _ wg ⟨_, _, lK.refl _ _, e', rfl, hk⟩
           · cases hk
         | ret =>
           obtain ⟨t, e', rfl, rfl, hk⟩ := hc
           simp only [N7] at hk
           split at hk
           · rename_i vs wg
             exact xl _ vs _ wg ⟨_, _, lK.refl _ _, e', rfl, hk⟩
           · cases hk
         | panic x =>
           obtain ⟨e', rfl, hk⟩ := hc
           exact ⟨e', rfl, hk⟩
         | exit id =>
           obtain ⟨t, e', rfl, rfl, hk⟩ := hc
           cases hk
       · cases h
     · cases h
theorem lr (e : ES) (b : Nat) (l : List AV) : (bD e).bU b l = bD (e.set b (.box l)) := (kO e b _).symm
theorem C2 (hV : oW V) {ev : rB} (he : sX V ev) : vu V (qe V ev) := fun f args e k h => by
 simp only [qe] at h
 cases JB : V.tr f with
 | false => rw [JB] at h; exact C1 hV he f args e k h
 | true =>
   rw [JB] at h
   simp only [cond_true] at h
   split at h
   · rename_i r g first cap
     rw [bR] at h
     obtain ⟨qN, h⟩ := h
     refine hV.tr f JB r g first cap _ _ qN fun a b c ha hb hc => ?_
     have ea := qw ha
     subst ea
     rw [<- pd] at hb hc ⊢
     have eb := qw hb
     subst eb
     rw [<- pd] at hc ⊢
     have ec := qw hc
     subst ec
     rw [<- pd]
     refine (C1 hV he g _ _ _ h).mono ?_
     rintro r U ⟨e', rfl, hk⟩
     cases r with
     | ret v =>
       simp only [EI] at hk
       split at hk
       · rename_i x y z h1 h2 h3
         rw [bR] at hk
         refine ⟨hk.1, ⟨x, h1⟩, ⟨y, h2⟩, ⟨z, h3⟩, ?_⟩
         rw [lr, lr, lr]
         exact ⟨_, rfl, hk.2⟩
       · cases hk
     | panic x =>
       simp only [EI] at hk
       split at hk
       · rename_i t at_ x y z h1 h2 h3
         simp only [bR] at hk
         have ht := eB hk.1
         subst ht
         refine ⟨at_, rfl, ⟨x, h1⟩, ⟨y, h2⟩, ⟨z, h3⟩, fun q hq => ?_⟩
         have eq := qw hq
         subst eq
         rw [<- pd, lr, lr, lr]
         exact ⟨_, rfl, hk.2⟩
       · cases hk
   · cases h
theorem rk (f : Nat -> AV) : ∀ (n : Nat) (t : T AV) (i : Nat), (pe f n t).get i = if i < n then some (f i) else t.get i
 | 0, t, i => by simp [pe]
 | n + 1, t, i => by
   simp only [pe]
   rw [rk f n, T.qy]
   by_cases h : i < n
   · rw [if_pos h, if_pos (by omega)]
   · rw [if_neg h]
     by_cases e : i = n
     · subst e; simp
     · rw [if_neg e, if_neg (by omega)]
end
end Go.Rip
namespace Go.Rip
open Go.RowKit
theorem bw.env {C : cw} {nt : Nat} {ro : Ro} {c : Code} {Q : Ex -> Env -> St -> Prop} {ρ dH : Env} {U : St} (h1 : ∀ t, t < nt -> dH.get t = ρ.get t) (h2 : ∀ t, nt <= t -> dH.get t = .aR []) (h : bw C nt ro c Q dH U) : bw C nt ro c Q ρ U := by
 intro g w a fr k1 k2 k3 k4 k5
 refine h g w a fr k1 k2 (fun t => ?_) k4 k5
 by_cases ht : t < nt
 · rw [h1 t ht]; exact k3 t
 · rw [h2 t (by omega)]
   have : a.tmps.getD t undef = undef := by
    rw [Array.getD_eq_getD_getElem?, uM (by omega)]; rfl
   rw [this]; exact sc
section
variable {V : gk}
theorem NM (hV : oW V) {ev : rB} (he : sX V ev) : wT V (tR V ev) := fun o args e k h => by
 simp only [tR] at h
 split at h
 · rename_i L hL
   simp only [bR] at h
   obtain ⟨⟨h1, h2⟩, h3⟩ := h
   refine jW.Ee hL (eB h1) (fun t ht => ?_) ?_
   · rw [ef] at h2
     have := h2 t ht
     simpa [Nat.blt_eq] using this
   · have h4 := he _ _ _ _ _ _ _ _ h3
     refine bw.env (dH := eC (pe (uJ L.ρ L.params.toList args) L.nt .e)) (fun t ht => ?_) (fun t ht => ?_) ?_
     · simp only [eC]; rw [rk, if_pos ht]; rfl
     · simp only [eC]; rw [rk, if_neg (by omega)]; rfl
     · refine h4.mono ?_
       intro ex ρ U hc
       cases ex with
       | normal =>
         obtain ⟨t, e', rfl, rfl, hk⟩ := hc
         dsimp only at hk
         split at hk
         · rename_i L' Ge
           simp only [bR] at hk
           refine ⟨L', Ge, ?_, ?_⟩
           · have := hk.1
             cases hs : L'.state <;> rw [hs] at this <;> first
              | rfl
              | (simp [isReady] at this)
           · have h5 := he _ _ _ _ _ _ _ _ hk.2
             rw [kO] at h5
             refine h5.mono ?_
             intro ex ρ U xM
             cases ex with
             | normal =>
               obtain ⟨t', e2, rfl, rfl, fE⟩ := xM
               simp only [endRound] at fE
               split at fE
               · rename_i L2 Jg; exact ⟨L2, Jg, _, (kO _ _ _).symm, fE⟩
               · cases fE
             | ret =>
               obtain ⟨t', e2, rfl, rfl, fE⟩ := xM
               simp only [endRound] at fE
               split at fE
               · rename_i L2 Jg; exact ⟨L2, Jg, _, (kO _ _ _).symm, fE⟩
               · cases fE
             | exit id =>
               obtain ⟨t', e2, rfl, rfl, fE⟩ := xM
               simp only [endRound] at fE
               split at fE
               · rename_i L2 Jg; exact ⟨L2, Jg, _, (kO _ _ _).symm, fE⟩
               · cases fE
             | panic x =>
               obtain ⟨e2, rfl, fE⟩ := xM
               simp only [endRound] at fE
               split at fE <;> cases fE
         · cases hk
       | exit id => obtain ⟨t, e', rfl, rfl, hk⟩ := hc; cases hk
       | ret => obtain ⟨t, e', rfl, rfl, hk⟩ := hc; cases hk
       | panic x => obtain ⟨e', rfl, hk⟩ := hc; cases hk
 · cases h
theorem Od (hV : oW V) (n : Nat) (ZW : ∀ m, m < n -> sX V (lC V m)) : sX V (lC V n) := by
 cases n with
 | zero => intro nt mu tag ro c ρ e k h; cases h
 | succ n =>
   intro nt mu tag ro c ρ e k h
   have ih := ZW n (Nat.lt_succ_self n)
   have hf := C2 hV ih
   have hy := NM hV ih
   by_cases hl : ∃ a, c = .loop a
   · obtain ⟨a, rfl⟩ := hl
     refine bw.loop (fun j ρ U => j <= n + 1 /\ ∃ t e, ρ = eC t /\ U = bD e /\ lC V j nt mu tag ro (.loop a) t e k = true) (n := n + 1) ⟨cX _, ρ, e, rfl, rfl, h⟩ ?_
     rintro j dH ae ⟨hj, t, e', rfl, rfl, hk⟩
     cases j with
     | zero => cases hk
     | succ j =>
       simp only [lC] at hk
       refine (ZW j (by omega) _ _ _ _ _ _ _ _ hk).mono ?_
       intro ex pO bP hc
       cases ex with
       | normal =>
         obtain ⟨t2, e2, rfl, rfl, fE⟩ := hc
         exact ⟨j, Nat.lt_succ_self j, by omega, t2, e2, rfl, rfl, fE⟩
       | exit id => exact hc
       | ret => exact hc
       | panic x => exact hc
   simp only [lC] at h
   split at h
   · exact bw.skip ⟨ρ, e, rfl, rfl, h⟩
   · exact bw.exit ⟨ρ, e, rfl, rfl, h⟩
   · exact bw.ret ⟨ρ, e, rfl, rfl, h⟩
   · rename_i a b
     refine bw.seq ((ih _ _ _ _ _ _ _ _ h).mono ?_)
     intro ex dH ae hc
     cases ex with
     | normal =>
       obtain ⟨t, e', rfl, rfl, hk⟩ := hc
       exact ih _ _ _ _ _ _ _ _ hk
     | exit id => exact hc
     | ret => exact hc
     | panic x => exact hc
   · rename_i x a b
     split at h
     · rename_i hc; exact bw.X3 hc (ih _ _ _ _ _ _ _ _ h)
     · rename_i hc; exact bw.X2 hc (ih _ _ _ _ _ _ _ _ h)
     · cases h
   · rename_i id a
     refine bw.block ((ih _ _ _ _ _ _ _ _ h).mono ?_)
     intro ex dH ae hc
     cases ex with
     | normal => exact hc
     | exit xW =>
       obtain ⟨t, e', rfl, rfl, hk⟩ := hc
       simp only [vH]
       dsimp only at hk
       split
       · rename_i hid
         subst hid
         rw [Nat.beq_refl, cond_true] at hk
         exact ⟨t, e', rfl, rfl, hk⟩
       · rename_i hid
         rw [wq hid, cond_false] at hk
         exact ⟨t, e', rfl, rfl, hk⟩
     | ret => exact hc
     | panic x => exact hc
   · rename_i a
     exact (hl ⟨a, rfl⟩).elim
   · rename_i id ops
     simp only [bR] at h
     refine bw.region mu h.1 (rX ?_ ?_ _ (yr hf hy _ _ _ h.2))
     · rintro dH ae ⟨t, e', rfl, rfl, hk⟩
       exact ⟨t, e', rfl, rfl, hk⟩
     · rintro v ae ⟨e', rfl, hk⟩ dH
       exact ⟨e', rfl, hk⟩
   · rename_i id ops
     split at h
     · simp only [bR] at h
       refine bw.uO mu _ _ hV.mixed h.1.1 (by rw [bR]; exact h.1.2) (ix ?_ ?_ _ (lO hV hf hy _ _ _ h.2))
       · rintro dH ae ⟨t, e', rfl, rfl, hk⟩
         exact ⟨t, e', rfl, rfl, hk⟩
       · rintro v ae ⟨e', rfl, hk⟩ dH
         exact ⟨e', rfl, hk⟩
     · rename_i rows df I post _
       simp only [bR] at h
       have Zw : ∀ v U, kA (fun x e => k (.panic x) .e e) v U -> vy (kC k) v U := by
        rintro v ae ⟨e', rfl, hk⟩ dH
        exact ⟨e', rfl, hk⟩
       refine bw.KA (B := preB V mu e ops.toList ρ []) (mu := mu) df I post hV.mixed h.1 (FJ h.2.1) (ix ?_ Zw _ (lO hV hf hy _ _ _ h.2.2))
       rintro dH ae ⟨t, e', rfl, rfl, hk⟩
       obtain ⟨xW, q1, q2, q3, t2, e2, q4, q5, q6⟩ := R0 t e' hk
       refine ⟨xW, q1, q2, q3, ?_⟩
       have key := ix (K' := KQ (kC k)) (by
        rintro pO bP ⟨t3, e3, rfl, rfl, hk⟩
        exact ⟨t3, e3, rfl, rfl, hk⟩) Zw _ (lO hV hf hy _ _ _ q6)
       rw [<- q4, <- q5] at key
       exact key
   · rename_i f ps assign body
     split at h
     · rename_i iq first cap hfn
       simp only [bR] at h
       refine bw.rangeFunc tag hfn h.1 fun o ho => ?_
       have := qw ho
       subst this
       rw [<- pd]
       refine (hf _ _ _ _ h.2).mono ?_
       rintro r U ⟨e', rfl, hk⟩
       cases r with
       | ret v =>
         simp only [C7] at hk
         split at hk
         · rename_i L hL
           simp only [bR, Bool.not_eq_true'] at hk
           refine ⟨L, hL, fun hb => ?_, ?_⟩
           · rw [hb] at hk; simp [JO] at hk
           · have fE := hk.2
             rw [<- yQ]
             split at fE
             · rename_i hp; try rw [hp]
               exact ⟨_, _, rfl, rfl, fE⟩
             · rename_i hp; try rw [hp]
               exact ⟨_, _, rfl, rfl, fE⟩
             · rename_i id hp; try rw [hp]
               exact ⟨_, _, rfl, rfl, fE⟩
             · cases fE
         · cases hk
       | panic x => exact ⟨e', rfl, hk⟩
     · cases h
   · cases h
theorem UE (hV : oW V) (n : Nat) : sX V (lC V n) := by
 induction n using Nat.strongRecOn with
 | _ n ih => exact Od hV n ih
theorem UF {V : gk} (hV : oW V) (n f : Nat) (args : List AV) (e : ES) (k : KR) (h : qe V (lC V n) f args e k = true) : af V.C f args (bD e) (kR k) := C2 hV (UE hV n) f args e k h
end
end Go.Rip
namespace Go.Rip
open Go.RowKit
mutual
def closed : AV -> Bool
 | .box _ _ | .ms _ _ _ _ _ | .mp _ | .pN _ | .it _ => false
 | .vec _ (.own _) _ => false
 | .vec _ _ l => bV l
 | .ck l => bV l
 | .eR ks vs => bV ks && bV vs
 | .func _ a b => bV a && bV b
 | .iface _ v => closed v
 | .agg l => bV l
 | .aR l => bV l
 | _ => true
def bV : List AV -> Bool
 | [] => true
 | x :: xs => closed x && bV xs
end
mutual
theorem az.closed {g g' : Gh} (hi : ∀ b o x, g.bQ b o = some x -> g'.bQ b o = some x) (hm : ∀ b x, g.bL b = some x -> g'.bL b = some x) : ∀ (x : AV) (v : Value), closed x = true -> az g x v -> az g' x v
 | .bool _, _, _, hr => hr
 | .int _ _, _, _, hr => hr
 | .str _, _, _, hr => hr
 | .a8, _, _, hr => hr
 | .al, _, _, hr => hr
 | .ke, _, _, hr => hr
 | .dh, _, _, hr => hr
 | .cW, _, _, hr => hr
 | .box _ _, _, hc, _ => by cases hc
 | .ms _ _ _ _ _, _, hc, _ => by cases hc
 | .mp _, _, hc, _ => by cases hc
 | .pN _, _, hc, _ => by cases hc
 | .it _, _, hc, _ => by cases hc
 | .ck l, _, hc, hr => by
   simp only [az] at hr ⊢
   obtain ⟨aH, off, vs, hv, h1, h2⟩ := hr
   exact ⟨aH, off, vs, hv, fun i u hu => hi _ _ _ (h1 i u hu), aE.closed hi hm l vs hc h2⟩
 | .vec n cap l, _, hc, hr => by
   simp only [az] at hr ⊢
   obtain ⟨aH, off, c, vs, hv, h1, h2, h3, h4, h5⟩ := hr
   cases cap with
   | own τ => cases hc
   | full => exact ⟨aH, off, c, vs, hv, h1, h2, h3, fun i u hu => hi _ _ _ (h4 i u hu), aE.closed hi hm l vs hc h5⟩
   | hX => exact ⟨aH, off, c, vs, hv, h1, h2, trivial, fun i u hu => hi _ _ _ (h4 i u hu), aE.closed hi hm l vs hc h5⟩
 | .eR ks vs, _, hc, hr => by
   simp only [az] at hr ⊢
   simp only [Go.Rip.closed, bR] at hc
   obtain ⟨r, es, c, l, hv, he, hp, hs, h1, h2⟩ := hr
   exact ⟨r, es, c, l, hv, hm _ _ he, hp, hs, aE.closed hi hm ks _ hc.1 h1, aE.closed hi hm vs _ hc.2 h2⟩
 | .func fn first captured, _, hc, hr => by
   simp only [az] at hr ⊢
   simp only [Go.Rip.closed, bR] at hc
   obtain ⟨fs, cs, hv, h1, h2⟩ := hr
   exact ⟨fs, cs, hv, aE.closed hi hm first _ hc.1 h1, aE.closed hi hm captured _ hc.2 h2⟩
 | .iface t x, _, hc, hr => by
   simp only [az] at hr ⊢
   obtain ⟨u, hv, h1⟩ := hr
   exact ⟨u, hv, az.closed hi hm x _ hc h1⟩
 | .agg l, _, hc, hr => by
   simp only [az] at hr ⊢
   obtain ⟨vs, hv, h0, h1⟩ := hr
   exact ⟨vs, hv, h0, aE.closed hi hm l _ hc h1⟩
 | .aR l, _, hc, hr => by
   simp only [az] at hr ⊢
   obtain ⟨vs, hv, h1⟩ := hr
   exact ⟨vs, hv, aE.closed hi hm l _ hc h1⟩
 | .any, _, _, _ => by simp only [az]
theorem aE.closed {g g' : Gh} (hi : ∀ b o x, g.bQ b o = some x -> g'.bQ b o = some x) (hm : ∀ b x, g.bL b = some x -> g'.bL b = some x) : ∀ (l : List AV) (vs : List Value), bV l = true -> aE g l vs -> aE g' l vs
 | [], _, _, hr => by simpa only [aE] using hr
 | x :: xs, _, hc, hr => by
   simp only [aE] at hr ⊢
   simp only [bV, bR] at hc
   obtain ⟨u, us, hv, h1, h2⟩ := hr
   exact ⟨u, us, hv, az.closed hi hm x _ hc.1 h1, aE.closed hi hm xs _ hc.2 h2⟩
end
def resolve : Nat -> St -> AV -> AV
 | 0, _, _ => .any
 | n + 1, U, x => match x with
   | .box b off => match U.box b with
     | some l => .ck ((l.map (resolve n U)).drop off)
     | none => .any
   | .ms b off k _ _ => match U.box b with
     | some l => .vec k .hX ((l.map (resolve n U)).drop off)
     | none => .any
   | .mp m => match U.mp m with
     | some (ks, vs) => .eR ks (vs.map (resolve n U))
     | none => .any
   | .vec k .full l => .vec k .full (l.map (resolve n U))
   | .vec k _ l => .vec k .hX (l.map (resolve n U))
   | .ck l => .ck (l.map (resolve n U))
   | .eR ks vs => .eR ks (vs.map (resolve n U))
   | .func f a b => .func f (a.map (resolve n U)) (b.map (resolve n U))
   | .iface t v => .iface t (resolve n U v)
   | .agg l => .agg (l.map (resolve n U))
   | .aR l => .aR (l.map (resolve n U))
   | .pN _ | .it _ => .any
   | x => x
noncomputable def Gh.all (g : Gh) (w : World) : Gh :=
 { g with
  bQ := fun q o => if g.base <= q then (match w.cell? ⟨q, o, none⟩ with | some u => if u.oneCell' = true then some u else none | none => none) else g.bQ q o
  bL := fun q => if g.base <= q then (match w.heap[q]? with | some (.map es c) => if h : (open Classical in decide (iN es c)) = true then some (es, c) else none | _ => none) else g.bL q }
theorem FY {g : Gh} {w : World} {q o : Nat} {u : Value} (hq : g.base <= q) (hc : w.cell? ⟨q, o, none⟩ = some u) (h1 : u.oneCell' = true) : (g.all w).bQ q o = some u := by
 show (if _ then _ else _) = _
 rw [if_pos hq, hc]; simp [h1]
theorem CQ {g : Gh} {w : World} {q : Nat} {es : Array MapEntry} {c : Nat} (hq : g.base <= q) (hc : w.heap[q]? = some (.map es c)) (h1 : iN es c) : (g.all w).bL q = some (es, c) := by
 show (if _ then _ else _) = _
 rw [if_pos hq, hc]; simp [h1]
theorem aZ.zM {g : Gh} {U : St} {w : World} (h : aZ g U w) : Gh.Le g (g.all w) := by
 refine ⟨rfl, rfl, fun _ _ h => h, fun b o x hx => ?_, fun b x hx => ?_, fun _ h => h, fun b o hb => ?_, fun b hb => ?_⟩
 · by_cases hq : g.base <= b
   · exact FY hq (h.bQ _ _ _ hx).1 (h.bQ _ _ _ hx).2
   · show (if _ then _ else _) = _
     rw [if_neg hq]; exact hx
 · by_cases hq : g.base <= b
   · exact CQ hq (h.bL _ _ _ hx).1 (h.bL _ _ _ hx).2
   · show (if _ then _ else _) = _
     rw [if_neg hq]; exact hx
 · show (if _ then _ else _) = _
   rw [if_neg (by omega)]
 · show (if _ then _ else _) = _
   rw [if_neg (by omega)]
theorem tV {g : Gh} {U : St} {w : World} (h : aZ g U w) (q o : Nat) (u : Value) (hu : (g.all w).bQ q o = some u) : w.cell? ⟨q, o, none⟩ = some u /\ u.oneCell' = true := by
 have hu : (if g.base <= q then (match w.cell? ⟨q, o, none⟩ with | some u => if u.oneCell' = true then some u else none | none => none) else g.bQ q o) = some u := hu
 split at hu
 · split at hu
   · rename_i x hx
     split at hu
     · cases hu; exact ⟨hx, by assumption⟩
     · cases hu
   · cases hu
 · exact h.bQ _ _ _ hu
theorem sn {g : Gh} {U : St} {w : World} (h : aZ g U w) (q : Nat) (es : Array MapEntry) (c : Nat) (hu : (g.all w).bL q = some (es, c)) : w.heap[q]? = some (.map es c) /\ iN es c := by
 have hu : (if g.base <= q then (match w.heap[q]? with | some (.map es c) => if h : (open Classical in decide (iN es c)) = true then some (es, c) else none | _ => none) else g.bL q) = some (es, c) := hu
 split at hu
 · split at hu
   · rename_i tb c' hx
     split at hu
     · rename_i hb
       cases hu; exact ⟨hx, by simpa using hb⟩
     · cases hu
   · cases hu
 · exact h.bL _ _ _ hu
theorem yK {g g' : Gh} {f : AV -> AV} : ∀ {l : List AV} {vs : List Value}, (∀ x v, x ∈ l -> az g x v -> az g' (f x) v) -> aE g l vs -> aE g' (l.map f) vs
 | [], _, _, h => by simpa only [aE, hC] using h
 | x :: xs, _, hf, h => by
   simp only [aE, dJ] at h ⊢
   obtain ⟨u, us, hv, h1, h2⟩ := h
   exact ⟨u, us, hv, hf x u (by simp) h1, yK (fun y v hy => hf y v (by simp [hy])) h2⟩
theorem yd {g : Gh} {U : St} {w : World} (h : aZ g U w) : ∀ (n : Nat) (x : AV) (v : Value), az g x v -> az (g.all w) (resolve n U x) v := by
 intro n
 induction n with
 | zero => intro x v _; simp only [resolve, az]
 | succ n ih =>
   intro x v hr
   have hl := h.zM
   have qT : ∀ {l : List AV} {vs : List Value}, aE g l vs -> aE (g.all w) (l.map (resolve n U)) vs := fun h => yK (fun y v _ hy => ih y v hy) h
   have hi : ∀ {aH off : Nat} {vs : List Value}, jv g aH off vs -> jv (g.all w) aH off vs := fun h => h.mono hl
   have box : ∀ {b off : Nat} {l : List AV} {p : Place}, U.box b = some l -> g.place b = some p -> ∃ vs, jv (g.all w) p.aH off vs /\ aE (g.all w) ((l.map (resolve n U)).drop off) vs := fun {b off l p} hb hp => by
    obtain ⟨x', cur, vs, rest, k1, k2, k3, k4, k5, k6, k7, k8⟩ := h.box b l hb
    have k1 : g.place b = some x' := k1
    rw [hp] at k1; cases k1
    refine ⟨vs.drop off, fun i u hu => ?_, (qT k6).drop off⟩
    rw [List.getElem?_drop] at hu
    have aJ : off + i < vs.length := by
     rcases eM (off + i) vs.length with h | h
     · exact h
     · simp [mN h] at hu
    have hc : cur[off + i]? = some u := by rw [<- jc, k5, sK aJ]; exact hu
    exact FY k2 (by rw [cell_of_row _ _ _ cur p.e (0, 0) k3]; exact hc) (k7 u (fO (by rw [jc]; exact hc)))
   cases x with
   | box b off =>
     simp only [resolve]
     cases hb : U.box b with
     | none => simp only [az]
     | some l =>
       simp only [az] at hr ⊢
       obtain ⟨p, hp, rfl⟩ := hr
       obtain ⟨vs, h1, h2⟩ := box (off := off) hb hp
       exact ⟨p.aH, off, vs, rfl, h1, h2⟩
   | ms b off k gN e =>
     simp only [resolve]
     cases hb : U.box b with
     | none => simp only [az]
     | some l =>
       simp only [az] at hr ⊢
       obtain ⟨p, c, hp, rfl, q1, q2, _⟩ := hr
       obtain ⟨vs, h1, h2⟩ := box (off := off) hb hp
       exact ⟨p.aH, off, c, vs, rfl, q1, q2, trivial, h1, h2⟩
   | mp m =>
     simp only [resolve]
     cases hm : U.mp m with
     | none => simp only [az]
     | some kv =>
       obtain ⟨ks, vs⟩ := kv
       simp only [az] at hr ⊢
       obtain ⟨r, hr, rfl⟩ := hr
       obtain ⟨r', es, clock, q1, q2, q3, qb, ⟨l, q4, q5, q6, q7⟩, q8⟩ := h.mp m _ hm
       rw [hr] at q1; cases q1
       exact ⟨r, es, clock, l, rfl, CQ q2 q3 qb, q4, q5, q6.mono hl, qT q7⟩
   | vec k c l =>
     simp only [az] at hr
     obtain ⟨aH, off, c', vs, rfl, h1, h2, h3, h4, h5⟩ := hr
     cases c with
     | full => simp only [resolve, az]; exact ⟨aH, off, c', vs, rfl, h1, h2, h3, hi h4, qT h5⟩
     | own τ => simp only [resolve, az]; exact ⟨aH, off, c', vs, rfl, h1, h2, trivial, hi h4, qT h5⟩
     | hX => simp only [resolve, az]; exact ⟨aH, off, c', vs, rfl, h1, h2, trivial, hi h4, qT h5⟩
   | ck l =>
     simp only [resolve, az] at hr ⊢
     obtain ⟨aH, off, vs, rfl, h1, h2⟩ := hr
     exact ⟨aH, off, vs, rfl, hi h1, qT h2⟩
   | eR ks vs =>
     simp only [resolve, az] at hr ⊢
     obtain ⟨r, es, c, l, rfl, he, hp, hs, h1, h2⟩ := hr
     exact ⟨r, es, c, l, rfl, hl.bL _ _ he, hp, hs, h1.mono hl, qT h2⟩
   | func f a b =>
     simp only [resolve, az] at hr ⊢
     obtain ⟨fs, cs, rfl, h1, h2⟩ := hr
     exact ⟨fs, cs, rfl, qT h1, qT h2⟩
   | iface t x =>
     simp only [resolve, az] at hr ⊢
     obtain ⟨u, rfl, h1⟩ := hr
     exact ⟨u, rfl, ih _ _ h1⟩
   | agg l =>
     simp only [resolve, az] at hr ⊢
     obtain ⟨vs, rfl, h0, h1⟩ := hr
     exact ⟨vs, rfl, h0, qT h1⟩
   | aR l =>
     simp only [resolve, az] at hr ⊢
     obtain ⟨vs, rfl, h1⟩ := hr
     exact ⟨vs, rfl, qT h1⟩
   | pN o => simp only [resolve, az]
   | it o => simp only [resolve, az]
   | any => simp only [resolve, az]
   | bool b => simp only [resolve]; exact hr.mono hl
   | int k n => simp only [resolve]; exact hr.mono hl
   | str s => simp only [resolve]; exact hr.mono hl
   | a8 => simp only [resolve]; exact hr.mono hl
   | al => simp only [resolve]; exact hr.mono hl
   | ke => simp only [resolve]; exact hr.mono hl
   | dh => simp only [resolve]; exact hr.mono hl
   | cW => simp only [resolve]; exact hr.mono hl
theorem Pure.xh {C : cw} {f : Nat} {args : List AV} {x : AV} (zu : ∀ i, closed (C.vS i) = true) (hargs : bV args = true) (hx : closed x = true) (d : Nat)
 (h : af C f args (bD ⟨.e, 0⟩) (fun r U => ∃ v, r = .ret v /\ resolve d U v = x)) : Pure C f args x := by
 intro U R hR g w vs hs hG ha
 let g0 : Gh := { base := w.heap.size, w0 := w, place := fun _ => none, bQ := g.bQ, bL := g.bL, res := fun _ => false }
 have rL : aZ g0 (bD ⟨.e, 0⟩) w := {
  below := Below.refl _ _
  le := cX _
  bQ := hs.bQ
  bL := hs.bL
  live := fun b x hb => by cases hb
  apart := fun b b' x x' p p' hb => by cases hb
  res := fun r hr => by cases hr
  fin := ⟨0, fun n hn => by cases hn; rfl, fun _ _ => rfl⟩ }
 have Jf : fU C g0 := ⟨fun i => az.closed (g := g) (g' := g0) (fun _ _ _ h => h) (fun _ _ h => h) _ _ (zu i) (hG.1 i), fun i cs hi => by
  obtain ⟨k1, t, fr, k2⟩ := hG.2 i cs hi
  refine ⟨Nat.lt_of_lt_of_le k1 hs.le, t, fr, ?_⟩
  show w.heap[i]? = _
  rw [hs.below.block i k1]; exact k2⟩
 have UQ : aE g0 args vs := aE.closed (g := g) (g' := g0) (fun _ _ _ h => h) (fun _ _ h => h) _ _ hargs ha
 refine (h g0 w vs rL Jf UQ).mono ?_
 rintro e w' hp
 cases e with
 | panicked ch => obtain ⟨g', ae, y, v, _, _, _, _, z, hz, _⟩ := hp; cases hz
 | outgrown => exact hp.elim
 | returned v =>
   obtain ⟨g', ae, y, h1, h2, h3, z, hz, hres⟩ := hp
   cases hz
   have bm := yd h2 d y v h3
   rw [hres] at bm
   have qS := h2.zM
   have hle := h1.trans qS
   have abK : g'.base = w.heap.size := h1.base
   have uh : Below w.heap.size w w' := by
    have := h2.below
    rw [h1.base, h1.w0] at this
    exact this
   let gF : Gh := { base := g.base, w0 := g.w0, place := g.place, bQ := (g'.all w').bQ, bL := (g'.all w').bL, res := g.res }
   have Du : Gh.Le g gF := ⟨rfl, rfl, fun _ _ h => h, fun b o u hu => hle.bQ b o u hu, fun b u hu => hle.bL b u hu, fun _ h => h,
    fun b o hb => hle.wi b o (by show b < w.heap.size; have := hs.le; omega), fun b hb => hle.tm b (by show b < w.heap.size; have := hs.le; omega)⟩
   refine ⟨gF, U, x, Du, ?_, az.closed (g := g'.all w') (g' := gF) (fun _ _ _ h => h) (fun _ _ h => h) x v hx bm, hR⟩
   exact {
    below := hs.below.trans (uh.mono hs.le)
    le := Nat.le_trans hs.le uh.size
    bQ := fun q o u hu => tV h2 q o u hu
    bL := fun q es c hu => sn h2 q es c hu
    live := fun b l hb => by
     obtain ⟨p, k1, k2, k3⟩ := hs.live b l hb
     have aJ := k3.lt
     exact ⟨p, k1, k2, k3.frame Du.r (uh.block _ aJ) (fun o => hle.wi _ o aJ) (hle.tm _ aJ)⟩
    apart := hs.apart
    res := fun r hr => by
     obtain ⟨k1, k2⟩ := hs.res r hr
     exact ⟨k1, by rw [uh.block _ (jb.1 k2).1]; exact k2⟩
    fin := hs.fin }
def YD (d : Nat) (x : AV) : KR
 | .ret v, e => gJ (resolve d (bD e) v) x
 | .panic _, _ => false
theorem Pure.eF {V : gk} (hV : oW V) (n d : Nat) {f : Nat} {args : List AV} {x : AV} (zu : ∀ i, closed (V.C.vS i) = true) (h : (bV args && closed x && qe V (lC V n) f args ⟨.e, 0⟩ (YD d x)) = true) : Pure V.C f args x := by
 simp only [bR] at h
 refine Pure.xh zu h.1.1 h.1.2 d ((UF hV n f args ⟨.e, 0⟩ _ h.2).mono ?_)
 rintro r U ⟨e, rfl, hk⟩
 cases r with
 | ret v => exact ⟨v, rfl, ta hk⟩
 | panic v => cases hk
end Go.Rip
namespace Go.Rip
open Go.RowKit
def Qb (R : St -> Prop) : Ex -> Env -> St -> Prop
 | .normal, _, U => R U
 | .ret, _, U => R U
 | _, _, _ => False
theorem SA {C : cw} {f : FuncId} {fn : Func} {id : Nat} {o : Oper} {d : Nat} {rest : Code} {args : List AV} {U : St} {g : Gh} {w : World} {vs : List Value}
 (hf : C.P.funcs[f]? = some fn) (hb : fn.body = some (.seq (.region id #[o] false) rest)) (hres : fn.results = #[]) (hop : ∀ ev w, (execOp ev o).run C.P w = .ok .recover w) (hd : o.dst = some d) (hdn : d < fn.ntmps) (hg : o.guard = none)
 (hlen : args.length <= fn.ntmps) (hs : aZ g U w) (hG : fU C g) (ha : aE g args vs) {x : AV} {v : Value} {u u' : FrameMode} (hx : az g x v)
 (hu : (u = .returning /\ v = .nilIface /\ u' = .returning) \/ (u = .panicking [{ v, recovered := false }] /\ u' = .panicking [{ v, recovered := true }])) (R : St -> Prop)
 (h : bw C fn.ntmps .bare rest (Qb R) ((Env.gX args).put d x) U) :
 CallsDIn Fence.wide 0 C.P f vs.toArray u w (fun e u2 w' => ∃ v', e = .returned v' /\ u2 = u' /\ ∃ g' ae, Gh.Le g g' /\ aZ g' ae w' /\ R ae) := by
 refine callsDIn_of_wpSIn hf hb trivial fun C4 cs hm => ?_
 refine wpSIn_seq (wpSIn_region ?_)
 have hl := ha.length
 have dD : (vs.toArray ++ Array.replicate (fn.ntmps - vs.toArray.size) undef).size = fn.ntmps := by simp; omega
 have AL : fA g (Env.gX args) (vs.toArray ++ Array.replicate (fn.ntmps - vs.toArray.size) undef) := yn args vs _ ha
 have aaH := AL.put (d := d) (by rw [dD]; exact hdn) hx
 have after : ∀ ze, (ze = { C4 with mode := u' } :: cs) -> rest.wpSIn Fence.wide 0 C.P (bodyPostS C.P fn C4 cs fun e u2 w' => ∃ v', e = .returned v' /\ u2 = u' /\ ∃ g' ae, Gh.Le g g' /\ aZ g' ae w' /\ R ae)
  (Act.put { tmps := vs.toArray ++ Array.replicate (fn.ntmps - vs.toArray.size) undef, defers := [] } o.dst v) ze w := fun ze qM => by
  refine wpSIn_of_wpIn rfl ?_
  have := h g w (Act.put { tmps := vs.toArray ++ Array.replicate (fn.ntmps - vs.toArray.size) undef, defers := [] } o.dst v) none hs hG (by rw [hd]; exact aaH) (by rw [(lW _ _ _).2]; exact dD) trivial
  refine wpIn_mono this ?_
  rintro e a w' ⟨q1, g', ae, dH, ms, q2, q3, q4, q5, q6, q7⟩
  have wb : ms = [] := q3.none rfl
  subst wb
  rw [(lW _ _ _).1] at q2
  simp only [hC, ik] at q2
  have hr : ∀ tmps, (results fn tmps).run C.P w' = .ok (.tuple #[]) w' := fun tmps => by
   unfold results
   rw [hres]
   simp
  cases e with
  | normal => exact ⟨q2, u', qM, _, hr _, _, rfl, rfl, g', ae, q4, q5, q7⟩
  | ret => exact ⟨q2, u', qM, _, hr _, _, rfl, rfl, g', ae, q4, q5, q7⟩
  | exit id => exact q7.elim
  | panic ch => obtain ⟨_, _, _, _, hf⟩ := q7; exact hf.elim
  | goto l => exact q7.elim
  | outgrown => exact q7.elim
 have hw : Region.wanted o (yielded #[o] (vs.toArray ++ Array.replicate (fn.ntmps - vs.toArray.size) undef)) = true := by simp [Region.wanted, hg]
 show wpOpsSIn Fence.wide 0 C.P #[o] _ [0] _ _ _
 simp only [wpOpsSIn, List.getElem?_toArray, List.getElem?_cons_zero, hw, if_true, hop]
 refine ⟨fun _ _ => trivial, ?_⟩
 rcases hu with ⟨rfl, rfl, rfl⟩ | ⟨rfl, rfl⟩
 · have e1 : recoverD (C4 :: cs) = none := by simp [recoverD, hm]
   rw [e1]
   exact after _ (by rw [<- hm])
 · have e1 : recoverD (C4 :: cs) = some (v, { C4 with mode := .panicking [{ v, recovered := true }] } :: cs) := by simp [recoverD, hm]
   rw [e1]
   exact after _ rfl
end Go.Rip
