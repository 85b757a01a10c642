/- Lemmas for the proof: no conditions. -/
import Derived.Test.YtnfpmiiopiinbaaGreatDoorRipZz
import Derived.Test.YtnfpmiiopiinbaaGreatDoorRipA
import Derived.OrdersIn
import Derived.RecoverIn
set_option linter.unusedVariables false
set_option linter.unusedSimpArgs false
set_option linter.loopingSimpArgs false
namespace Go.Rip
open Go.RowKit
inductive cO where
 | ret (x:AV)
 | panic (x:AV)
inductive Ex where
 | normal
 | exit (id:Nat)
 | ret
 | panic (x:AV)
def FW (ro:Option Nat):Fence:={ Fence.wide with round:=ro }
def oH (g:Gh) (R:cO->St->Prop):Ending->World->Prop
 | .returned v,w'=>∃ g' af x,Gh.Le g g'/\bp g' af w'/\aE g' x v/\R (.ret x) af
 | .panicked ch,w'=>∃ g' af x v,ch=[{ v,recovered:=false }]/\Gh.Le g g'/\bp g' af w'/\aE g' x v/\R (.panic x) af
 | .outgrown,_=>False
def ag (C:cT) (f:FuncId) (args:List AV) (U:St) (R:cO->St->Prop):Prop :=
 ∀ g w vs,bp g U w->ix C g->aH g args vs->CallsIn Fence.wide 0 C.P f (List.toArray vs) w (oH g R)
def ma (C:cT) (o:Nat) (args:List AV) (U:St) (R:cO->St->Prop):Prop :=
 ∀ g w vs x,bp g U w->ix C g->aH g args vs->g.place o=some x->∃ fn tmps assign body,(Instr.yield x.aN (List.toArray vs)).run C.P w=.ok (.round x.aN fn tmps assign body) w /\
  RoundIn Fence.wide 0 C.P x.aN fn tmps assign body w (oH g R)
theorem oH.mono {g:Gh} {R R':cO->St->Prop} {e:Ending} {w:World} (h:oH g R e w) (hr:∀ r U,R r U->R' r U):oH g R' e w:=by
 cases e with
 | returned v=>obtain ⟨g',af,x,h1,h2,h3,h4⟩:=h; exact ⟨g',af,x,h1,h2,h3,hr _ _ h4⟩
 | panicked ch=>obtain ⟨g',af,x,v,h0,h1,h2,h3,h4⟩:=h; exact ⟨g',af,x,v,h0,h1,h2,h3,hr _ _ h4⟩
 | outgrown=>exact h
theorem ag.mono {C:cT} {f:FuncId} {args:List AV} {U:St} {R R':cO->St->Prop} (h:ag C f args U R) (hr:∀ r U,R r U->R' r U):ag C f args U R' :=
 fun g w vs hs hG ha=>(h g w vs hs hG ha).mono fun _ _ hp=>hp.mono hr
theorem ma.mono {C:cT} {f:Nat} {args:List AV} {U:St} {R R':cO->St->Prop} (h:ma C f args U R) (hr:∀ r U,R r U->R' r U):ma C f args U R' :=
 fun g w vs x hs hG ha hx=>let ⟨a,b,c,d,e,r⟩:=h g w vs x hs hG ha hx; ⟨a,b,c,d,e,r.mono fun _ _ hp=>hp.mono hr⟩
def aq (K:AV->St->Prop) (Kp:AV->St->Prop):cO->St->Prop
 | .ret x,U=>K x U
 | .panic x,U=>Kp x U
def ay.wp (C:cT) (U:St) (K:AV->St->Prop) (Kp:AV->St->Prop):ay->Prop
 | .val v=>K v U
 | .ir v b x=>K v (U.set b x)
 | .new k del x=>∀ b,(U.sh del).dw b->K (k.at b) ((U.sh del).new b x)
 | .lh b l=>∀ p ∈ l,K p.1 (U.set b p.2)
 | .enter f args=>ag C f args U (aq K Kp)
 | .yield l args=>ma C l args U (aq K Kp)
 | .panic v=>Kp v U
 | @ay.cond p _ r=>p/\r.wp C U K Kp
 | .bad=>False
def ig (ops:Array Oper) (ρ:Env):Option (Nat × Bool)->AV
 | none=>.bool true
 | some (j,want)=>match (ops[j]?).bind (·.dst) with
   | some d=>match ρ.get d with
     | .bool b=>.bool (b == want)
     | .aG []=>.bool false
     | _=>.any
   | none=>.any
def ao:AV->Prop->Prop->Prop
 | .bool b,A,B=>(b=true->A)/\(b=false->B)
 | _,_,_=>False
def o0 (C:cT) (mu:List Nat) (ops:Array Oper):List Oper->Env->St->(Env->St->Prop)->(AV->St->Prop)->Prop
 | [],ρ,U,K,_=>K ρ U
 | o::rest,ρ,U,K,Kp=>ao (ig ops ρ o.guard)
    ((jH C (match o.dst with | some d=>mu.contains d | none=>false) o.op ρ U).wp C U (fun v af=>o0 C mu ops rest (ρ.eB o.dst v) af K Kp) Kp)
    (o0 C mu ops rest (ρ.eB o.dst (.aG [])) U K Kp)
def Ga (r:Nat):Deferred:={ target:=.collected r,args:=#[] }
def GN (g:Gh) (Q:Ex->Env->St->Prop) (ρ:Env) (U:St):Exit->Prop
 | .normal=>Q .normal ρ U
 | .exit id=>Q (.exit id) ρ U
 | .ret=>Q .ret ρ U
 | .panic ch=>∃ x v,ch=[{ v,recovered:=false }]/\aE g x v/\Q (.panic x) ρ U
 | .goto _=>False
 | .outgrown=>False
inductive Ro where
 | fn
 | bare
 | round (o:Nat)
def Ro.nm:Ro->Bool
 | .bare=>true
 | _=>false
structure oB (nm:Bool) (g g':Gh) (ms:List Nat):Prop where
 none:nm=true->ms=[]
 nodup:ms.Nodup
 res:∀ r ∈ ms,g'.res r=true/\g.res r=false
theorem lH (nm:Bool) (g g':Gh):oB nm g g' []:=⟨fun _=>rfl,List.nodup_nil,by simp⟩
theorem oB.append {nm:Bool} {g g1 g2:Gh} {m1 m2:List Nat} (h1:oB nm g g1 m1) (h2:oB nm g1 g2 m2) (l1:Gh.Le g g1) (l2:Gh.Le g1 g2):oB nm g g2 (m2++m1):=by
 refine ⟨fun h=>by rw [h1.none h,h2.none h]; rfl,List.nodup_append.2 ⟨h2.nodup,h1.nodup,fun x hx y hy e=>?_⟩,fun r hr=>?_⟩
 . subst e
   have:=(h2.res x hx).2
   rw [(h1.res x hy).1] at this; cases this
 . simp only [fN] at hr
   rcases hr with hr | hr
   . refine ⟨(h2.res r hr).1,?_⟩
     cases e:g.res r with
     | false=>rfl
     | true=>have:=(h2.res r hr).2; rw [l1.res _ e] at this; cases this
   . exact ⟨l2.res _ (h1.res r hr).1,(h1.res r hr).2⟩
def qp (g:Gh) (nt:Nat) (nm:Bool) (ds:List Deferred) (Q:Ex->Env->St->Prop) (e:Exit) (a:Act) (w:World):Prop :=
 a.tmps.size=nt/\∃ g' U ρ ms,a.defers=ms.map Ga++ds/\oB nm g g' ms/\Gh.Le g g'/\bp g' U w/\gM g' ρ a.tmps/\GN g' Q ρ U e
def Gl (g:Gh):Ro->Option Nat->Prop
 | .fn,none=>True
 | .bare,none=>True
 | .round o,some l=>∃ x,g.place o=some x/\x.aN=l
 | _,_=>False
theorem Gl.mono {g g':Gh} (h:Gh.Le g g') {ro:Ro} {fr:Option Nat} (hr:Gl g ro fr):Gl g' ro fr:=by
 cases ro <;> cases fr <;> simp only [Gl] at hr ⊢
 obtain ⟨x,h1,h2⟩:=hr
 exact ⟨x,h.place _ _ h1,h2⟩
def bI (C:cT) (nt:Nat) (ro:Ro) (c:Code) (Q:Ex->Env->St->Prop) (ρ:Env) (U:St):Prop :=
 ∀ g w a fr,bp g U w->ix C g->gM g ρ a.tmps->a.tmps.size=nt->Gl g ro fr->c.wpIn (FW fr) 0 C.P (qp g nt ro.nm a.defers Q) a w
section
variable {C:cT} {g:Gh} {U:St} {w:World} {nt:Nat} {nm:Bool} {ro:Ro} {Q:Ex->Env->St->Prop} {ρ:Env}
theorem GN.mono {Q':Ex->Env->St->Prop} {e:Exit} (h:GN g Q ρ U e) (hq:∀ e ρ U,Q e ρ U->Q' e ρ U):GN g Q' ρ U e:=by
 cases e <;> first
  | exact hq _ _ _ h
  | (obtain ⟨x,v,h1,h2,h3⟩:=h; exact ⟨x,v,h1,h2,hq _ _ _ h3⟩)
  | exact h
theorem bI.mono {c:Code} {Q':Ex->Env->St->Prop} (h:bI C nt ro c Q ρ U) (hq:∀ e ρ U,Q e ρ U->Q' e ρ U):bI C nt ro c Q' ρ U :=
 fun g w a fr h1 h2 h3 h4 tB=>wpIn_mono (h g w a fr h1 h2 h3 h4 tB) fun e a' w' ⟨k1,g',af,dY,ms,k2,k3,k4,k5,k6,k7⟩=>⟨k1,g',af,dY,ms,k2,k3,k4,k5,k6,k7.mono hq⟩
theorem qp.back {g':Gh} {ds:List Deferred} {ms:List Nat} {e:Exit} {a:Act} (h:qp g' nt nm (ms.map Ga++ds) Q e a w) (y6:oB nm g g' ms) (hle:Gh.Le g g'):qp g nt nm ds Q e a w:=by
 obtain ⟨k1,g2,af,dY,HL,k2,k3,k4,k5,k6,k7⟩:=h
 exact ⟨k1,g2,af,dY,HL++ms,by rw [k2,List.map_append,kI],y6.append k3 hle k4,hle.trans k4,k5,k6,k7⟩
def aaM (K:Env->St->Prop) (Q:Ex->Env->St->Prop):Ex->Env->St->Prop
 | .normal,ρ,U=>K ρ U
 | e,ρ,U=>Q e ρ U
theorem bI.seq {x y:Code} (h:bI C nt ro x (aaM (fun ρ U=>bI C nt ro y Q ρ U) Q) ρ U):bI C nt ro (.seq x y) Q ρ U:=by
 intro g w a fr h1 h2 h3 h4 tB
 refine wpIn_seq (wpIn_mono (h g w a fr h1 h2 h3 h4 tB) ?_)
 rintro e a' w' ⟨k1,g',af,dY,ms,k2,k3,k4,k5,k6,k7⟩
 cases e with
 | normal =>
   have:=k7 g' w' a' fr k5 (h2.mono k4) k6 k1 (tB.mono k4)
   rw [k2] at this
   exact wpIn_mono this fun e a w hp=>hp.back k3 k4
 | exit id=>exact ⟨k1,g',af,dY,ms,k2,k3,k4,k5,k6,k7⟩
 | ret=>exact ⟨k1,g',af,dY,ms,k2,k3,k4,k5,k6,k7⟩
 | panic ch=>exact ⟨k1,g',af,dY,ms,k2,k3,k4,k5,k6,k7⟩
 | goto l=>exact k7.elim
 | outgrown=>exact k7.elim
theorem zy {a:Act} {ds:List Deferred} {e:Exit} (h:bp g U w) (hr:gM g ρ a.tmps) (hn:a.tmps.size=nt) (hd:a.defers=ds) (hq:GN g Q ρ U e):qp g nt nm ds Q e a w :=
 ⟨hn,g,U,ρ,[],by simpa using hd,lH _ _ _,Gh.Le.refl g,h,hr,hq⟩
theorem bI.skip (h:Q .normal ρ U):bI C nt ro .skip Q ρ U:=fun g w a fr h1 h2 h3 h4 _=>wpIn_skip (zy h1 h3 h4 rfl h)
theorem bI.exit {id:Nat} (h:Q (.exit id) ρ U):bI C nt ro (.exit id) Q ρ U:=fun g w a fr h1 h2 h3 h4 _=>wpIn_exit (zy h1 h3 h4 rfl h)
theorem bI.ret (h:Q .ret ρ U):bI C nt ro .ret Q ρ U:=fun g w a fr h1 h2 h3 h4 _=>wpIn_ret (zy h1 h3 h4 rfl h)
theorem bI.cond {c:Operand} {x y:Code} {b:Bool} (hc:ρ.ev C c=.bool b) (h1:b=true->bI C nt ro x Q ρ U) (h2:b=false->bI C nt ro y Q ρ U):bI C nt ro (.cond c x y) Q ρ U:=by
 intro g w a fr k1 k2 k3 k4 k5
 have:=tm k2 k3 c
 rw [hc] at this
 simp only [aE] at this
 exact wpIn_cond_split this (fun e=>h1 e g w a fr k1 k2 k3 k4 k5) (fun e=>h2 e g w a fr k1 k2 k3 k4 k5)
theorem bI.ace {c:Operand} {x y:Code} (hc:ρ.ev C c=.bool true) (h1:bI C nt ro x Q ρ U):bI C nt ro (.cond c x y) Q ρ U:=bI.cond hc (fun _=>h1) (fun h=>by cases h)
theorem bI.acd {c:Operand} {x y:Code} (hc:ρ.ev C c=.bool false) (h1:bI C nt ro y Q ρ U):bI C nt ro (.cond c x y) Q ρ U:=bI.cond hc (fun h=>by cases h) (fun _=>h1)
def yF (id:Nat) (Q:Ex->Env->St->Prop):Ex->Env->St->Prop
 | .exit A0,ρ,U=>if A0=id then Q .normal ρ U else Q (.exit A0) ρ U
 | e,ρ,U=>Q e ρ U
theorem bI.block {id:Nat} {c:Code} (h:bI C nt ro c (yF id Q) ρ U):bI C nt ro (.block id c) Q ρ U:=by
 intro g w a fr h1 h2 h3 h4 tB
 refine wpIn_block (wpIn_mono (h g w a fr h1 h2 h3 h4 tB) ?_)
 rintro e a' w' ⟨k1,g',af,dY,ms,k2,k3,k4,k5,k6,k7⟩
 cases e with
 | normal=>exact ⟨k1,g',af,dY,ms,k2,k3,k4,k5,k6,k7⟩
 | exit A0 =>
   have k7:yF id Q (.exit A0) dY af:=k7
   simp only [yF] at k7
   simp only [Exit.inBlock]
   split
   . rename_i e; rw [if_pos e] at k7; exact ⟨k1,g',af,dY,ms,k2,k3,k4,k5,k6,k7⟩
   . rename_i e; rw [if_neg e] at k7; exact ⟨k1,g',af,dY,ms,k2,k3,k4,k5,k6,k7⟩
 | ret=>exact ⟨k1,g',af,dY,ms,k2,k3,k4,k5,k6,k7⟩
 | panic ch=>exact ⟨k1,g',af,dY,ms,k2,k3,k4,k5,k6,k7⟩
 | goto l=>exact k7.elim
 | outgrown=>exact k7.elim
theorem bI.loop {c:Code} (I:Nat->Env->St->Prop) {n:Nat} (h0:I n ρ U) (round:∀ n ρ U,I n ρ U->bI C nt ro c (aaM (fun dY af=>∃ m,m < n/\I m dY af) Q) ρ U):bI C nt ro (.loop c) Q ρ U:=by
 intro g w a fr h1 h2 h3 h4 tB
 let J:Nat->Act->World->Prop:=fun n a' w'=>a'.tmps.size=nt/\∃ g' af dY ms,a'.defers=ms.map Ga++a.defers/\oB ro.nm g g' ms/\Gh.Le g g'/\bp g' af w'/\gM g' dY a'.tmps/\I n dY af
 have ex:∀ a' w',(∃ n,J n a' w')->∃ n,J n a' w'/\∀ m,m < n->¬ J m a' w':=fun a' w' ⟨n,hn⟩=>by
  induction n using Nat.strongRecOn with
  | _ n ih =>
    by_cases hm:∃ m,m < n/\J m a' w'
    . obtain ⟨m,Z6,Z7⟩:=hm; exact ih m Z6 Z7
    . exact ⟨n,hn,fun m Z6 Z7=>hm ⟨m,Z6,Z7⟩⟩
 classical
 let μ:Act->World->Nat:=fun a' w'=>if h:∃ n,J n a' w' then (ex a' w' h).choose else 0
 have hμ:∀ a' w',(∃ n,J n a' w')->J (μ a' w') a' w'/\∀ m,m < μ a' w'->¬ J m a' w':=fun a' w' h=>by
  have:=(ex a' w' h).choose_spec
  simp only [μ,dif_pos h]; exact this
 refine wpIn_loop (fun a' w'=>∃ n,J n a' w') μ ⟨n,h4,g,U,ρ,[],by simp,lH _ _ _,Gh.Le.refl g,h1,h3,h0⟩ ?_
 intro a' w' hJ
 obtain ⟨⟨k1,g',af,dY,ms,k2,k3,k4,k5,k6,k7⟩,_⟩:=hμ a' w' hJ
 refine wpIn_mono (round _ dY af k7 g' w' a' fr k5 (h2.mono k4) k6 k1 (tB.mono k4)) ?_
 intro e a2 w2 hp
 rw [k2] at hp
 have hp:=hp.back k3 k4
 obtain ⟨q1,g2,bg,qF,HL,q2,q3,q4,q5,q6,q7⟩:=hp
 cases e with
 | normal =>
   obtain ⟨m,hm,hI⟩:=q7
   have Zz:J m a2 w2:=⟨q1,g2,bg,qF,HL,q2,q3,q4,q5,q6,hI⟩
   refine ⟨⟨m,Zz⟩,?_⟩
   have:=(hμ a2 w2 ⟨m,Zz⟩).2
   rcases gr (μ a2 w2) (μ a' w') with h | h
   . exact h
   . exact absurd Zz (this m (by omega))
 | exit id=>exact ⟨q1,g2,bg,qF,HL,q2,q3,q4,q5,q6,q7⟩
 | ret=>exact ⟨q1,g2,bg,qF,HL,q2,q3,q4,q5,q6,q7⟩
 | panic ch=>exact ⟨q1,g2,bg,qF,HL,q2,q3,q4,q5,q6,q7⟩
 | goto l=>exact q7.elim
 | outgrown=>exact q7.elim
end
end Go.Rip
namespace Go.Rip
open Go.RowKit
section
variable {C:cT} {g:Gh} {U:St} {w:World} {nt:Nat} {nm:Bool} {ro:Ro} {fr:Option Nat} {Q:Ex->Env->St->Prop} {ρ:Env}
def BE (nt:Nat) (o:Oper):Bool :=
 (match o.dst with | some d=>decide (d < nt) | none=>true) && (match o.op with | .defer _=>false | _=>true)
def kQ (nt:Nat) (ops:Array Oper):Bool:=ops.toList.all (BE nt)
theorem AM {ops:Array Oper} {a:Act} (hr:gM g ρ a.tmps) {o:Oper} {b:Bool} (h:ig ops ρ o.guard=.bool b):Region.wanted o (yielded ops a.tmps)=b:=by
 unfold ig at h
 unfold Region.wanted
 cases hg:o.guard with
 | none=>simp [hg] at h; simp [h]
 | some jw =>
   obtain ⟨j,want⟩:=jw
   simp only [hg] at h ⊢
   split at h
   . rename_i d hd
     split at h
     . rename_i b' hb
       simp only [AV.bool.injEq] at h
       subst h
       have:=hr d
       rw [hb] at this
       simp only [aE] at this
       have si:a.tmps[d]?=some (.bool b'):=by
        rw [Array.getD_eq_getD_getElem?] at this
        cases ht:a.tmps[d]? with
        | none=>rw [ht] at this; simp [undef] at this
        | some v=>rw [ht] at this; simp at this; rw [this]
       unfold yielded
       rw [hd]
       simp only [Option.bind_some,si]
       cases b' <;> cases want <;> rfl
     . rename_i hb
       simp only [AV.bool.injEq] at h
       subst h
       have:=hr d
       rw [hb] at this
       simp only [aE,aH] at this
       obtain ⟨vs,this,rfl⟩:=this
       have si:∀ b,a.tmps[d]? ≠ some (.bool b):=fun b eT=>by
        rw [Array.getD_eq_getD_getElem?,eT] at this
        simp at this
       unfold yielded
       rw [hd]
       simp only [Option.bind_some]
       first
        | rfl
        | (split
           . rename_i b' eT; exact absurd eT (si _)
           . rfl)
     . cases h
   . cases h
theorem om (a:Act) (dst:Option Tmp) (v:Value):(a.put dst v).defers=a.defers/\(a.put dst v).tmps.size=a.tmps.size:=by
 cases dst <;> simp [Act.put]
theorem gM.eB {a:Act} (hr:gM g ρ a.tmps) {dst:Option Tmp} {x:AV} {v:Value} (hd:∀ d,dst=some d->d < a.tmps.size) (hx:aE g x v):gM g (ρ.eB dst x) (a.put dst v).tmps:=by
 cases dst with
 | none=>exact hr
 | some d=>exact hr.put (hd d rfl) hx
theorem uJ:aE g (.aG []) undef:=by simp only [aE]; exact ⟨[],rfl,by simp [aH]⟩
def KQ (Q:Ex->Env->St->Prop):Env->St->Prop:=fun ρ U=>Q .normal ρ U
def yb (Q:Ex->Env->St->Prop):AV->St->Prop:=fun x U=>∀ ρ,Q (.panic x) ρ U
theorem pI {o:Oper} (cS:BE nt o=true) {mu:Bool} {K:AV->St->Prop} {Kp:AV->St->Prop} {ds:List Deferred} {next:Act->World->Prop} {a:Act}
 (hs:bp g U w) (hG:ix C g) (hr:gM g ρ a.tmps) (hn:a.tmps.size=nt)
 (h:(jH C mu o.op ρ U).wp C U K Kp)
 (oC:∀ g' af w' x v,Gh.Le g g'->bp g' af w'->aE g' x v->K x af->next (a.put o.dst v) w')
 {QQ:Exit->Act->World->Prop} (Hl:∀ g' af w' x v,Gh.Le g g'->bp g' af w'->aE g' x v->Kp x af->QQ (.panic [{ v,recovered:=false }]) a w') :
 o.wpIn (FW fr) 0 C.P a w next QQ:=by
 refine ⟨fun _ _=>trivial,?_⟩
 have G7:∀ c,o.op ≠ .defer c:=fun c e=>by simp [BE,e] at cS
 rw [Oper.semAt_eq _ _ _ G7]
 have fits:=S6 (C:=C) hs hG hr mu o
 generalize hres:(execOp a.eval o).run C.P w=res at fits ⊢
 generalize jH C mu o.op ρ U=r at fits h
 have val:∀ {x af},(∃ u w' g',(res=.ok (.value u) w'\/(res=.ok .skip w'/\u=undef))/\Gh.Le g g'/\bp g' af w'/\aE g' x u)->K x af->o.uponIn (FW fr) 0 C.P a next QQ res:=by
  rintro x af ⟨u,w',g',hu,hle,eE,hx⟩ hk
  rcases hu with rfl | ⟨rfl,rfl⟩
  . exact oC g' af w' x u hle eE hx hk
  . exact oC g' af w' x undef hle eE hx hk
 induction r with
 | val v=>exact val fits h
 | ir v b x=>exact val fits h
 | new k del x=>obtain ⟨u,w',g',b,rfl,hb,hle,eE,hx⟩:=fits; exact oC g' _ w' _ u hle eE hx (h b hb)
 | lh b l=>obtain ⟨u,w',g',v,x,rfl,hm,hle,eE,hx⟩:=fits; exact oC g' _ w' _ u hle eE hx (h (v,x) hm)
 | enter f args =>
   obtain ⟨vs,w',rfl,eE,ha⟩:=fits
   refine ⟨fun hd=>by simp [FW,Fence.wide] at hd,?_⟩
   have hc:CallsIn (FW fr) 0 C.P f (List.toArray vs) w' (oH g (aq K Kp)):=h g w' vs eE hG ha
   refine hc.mono ?_
   rintro e w2 hp
   cases e with
   | returned v=>obtain ⟨g',af,x,h1,h2,h3,h4⟩:=hp; exact oC g' af w2 x v h1 h2 h3 h4
   | panicked ch=>obtain ⟨g',af,x,v,rfl,h1,h2,h3,h4⟩:=hp; exact Hl g' af w2 x v h1 h2 h3 h4
   | outgrown=>exact hp.elim
 | yield l args =>
   obtain ⟨vs,x,w0,w',hx,rfl,rfl,eE,ha⟩:=fits
   obtain ⟨fn,tmps,assign,body,hy,hR⟩:=h g w' vs x eE hG ha hx
   rw [hy]
   refine ⟨fun hd=>by simp [FW,Fence.wide] at hd,?_⟩
   have hc:RoundIn (FW fr) 0 C.P x.aN fn tmps assign body w' (oH g (aq K Kp)):=hR
   refine hc.mono ?_
   rintro e w2 hp
   cases e with
   | returned v=>obtain ⟨g',af,x,h1,h2,h3,h4⟩:=hp; exact oC g' af w2 x v h1 h2 h3 h4
   | panicked ch=>obtain ⟨g',af,x,v,rfl,h1,h2,h3,h4⟩:=hp; exact Hl g' af w2 x v h1 h2 h3 h4
   | outgrown=>exact hp.elim
 | panic v=>obtain ⟨u,w',rfl,eE,hx⟩:=fits; exact Hl g _ w' v u (Gh.Le.refl g) eE hx h
 | cond p r ih=>exact ih (fits h.1) h.2
 | bad=>exact h.elim
theorem xn {mu:List Nat} {ops:Array Oper} (cS:kQ nt ops=true) (g0:Gh):∀ (l:List Nat) (g:Gh) (U:St) (w:World) (ρ:Env) (a:Act) (ds:List Deferred),Gh.Le g0 g->bp g U w->ix C g->gM g ρ a.tmps->a.tmps.size=nt->a.defers=ds ->
 o0 C mu ops (l.filterMap (ops[·]?)) ρ U (KQ Q) (yb Q)->wpOpsIn (FW fr) 0 C.P ops (qp g0 nt nm ds Q) l a w
 | [],g,U,w,ρ,a,ds,h0,hs,hG,hr,hn,hd,h=>by
   simp only [wpOpsIn]
   exact ⟨hn,g,U,ρ,[],by simpa using hd,lH _ _ _,h0,hs,hr,h⟩
 | i::rest,g,U,w,ρ,a,ds,h0,hs,hG,hr,hn,hd,h=>by
   simp only [wpOpsIn]
   cases ho:ops[i]? with
   | none =>
     simp only [List.filterMap_cons,ho] at h
     exact xn cS g0 rest g U w ρ a ds h0 hs hG hr hn hd h
   | some o =>
     dsimp only
     simp only [List.filterMap_cons,ho,o0] at h
     have mN:o ∈ ops.toList:=by
      have:=fl (l:=ops.toList) (i:=i) (a:=o) (by rw [lK]; exact ho)
      exact this
     have Hk:BE nt o=true:=by
      unfold kQ at cS
      rw [ep] at cS
      exact cS o mN
     have SL:∀ d,o.dst=some d->d < a.tmps.size:=fun d sC=>by
      simp only [BE,sC,bX,da] at Hk
      rw [hn]; exact Hk.1
     have go:∀ g' af w' x v,Gh.Le g g'->bp g' af w'->aE g' x v->o0 C mu ops (rest.filterMap (ops[·]?)) (ρ.eB o.dst x) af (KQ Q) (yb Q)->wpOpsIn (FW fr) 0 C.P ops (qp g0 nt nm ds Q) rest (a.put o.dst v) w':=fun g' af w' x v hle eE hx hk =>
      xn cS g0 rest g' af w' (ρ.eB o.dst x) (a.put o.dst v) ds (h0.trans hle) eE (hG.mono hle) ((hr.mono hle).eB SL hx) (by rw [(om a o.dst v).2]; exact hn) (by rw [(om a o.dst v).1]; exact hd) hk
     cases NH:ig ops ρ o.guard <;> rw [NH] at h <;> simp only [ao] at h
     rename_i b
     have hw:=AM hr NH
     cases b
     . rw [if_neg (by rw [hw]; simp)]
       exact ⟨fun _ _=>trivial,go g U w (.aG []) undef (Gh.Le.refl g) hs uJ (h.2 rfl)⟩
     . rw [if_pos hw]
       refine pI Hk hs hG hr hn (h.1 rfl) go ?_ (ds:=ds)
       intro g' af w' x v hle eE hx hk
       exact ⟨hn,g',af,ρ,[],by simpa using hd,lH _ _ _,h0.trans hle,eE,hr.mono hle,x,v,rfl,hx,hk ρ⟩
theorem C0 (ops:Array Oper):(List.range ops.size).filterMap (ops[·]?)=ops.toList:=by
 apply List.ext_getElem?
 intro i
 have:∀ n,n <= ops.size->(List.range n).filterMap (ops[·]?)=ops.toList.take n:=fun n=>by
  induction n with
  | zero=>intro _; simp
  | succ n ih =>
    intro hn
    rw [List.range_succ,List.filterMap_append,ih (by omega),lM]
    have:ops[n]?=some ops[n]:=by simp
    simp [this]
 rw [this ops.size (gE _),o4 (by simp)]
theorem bI.region {id:Nat} {ops:Array Oper} (mu:List Nat) (cS:kQ nt ops=true) (h:o0 C mu ops ops.toList ρ U (KQ Q) (yb Q)):bI C nt ro (.region id ops false) Q ρ U:=by
 intro g w a fr h1 h2 h3 h4 tB
 exact wpIn_region (xn cS g (List.range ops.size) g U w ρ a a.defers (Gh.Le.refl g) h1 h2 h3 h4 rfl (by rw [C0]; exact h))
end
end Go.Rip
namespace Go.Rip
open Go.RowKit
def se (x:AV) (U:St) (x':AV) (af:St):Prop:=∀ g w v,bp g U w->aE g x v->∃ g',Gh.Le g g'/\bp g' af w/\aE g' x' v
theorem se.refl (x:AV) (U:St):se x U x U:=fun g w v h hr=>⟨g,Gh.Le.refl g,h,hr⟩
theorem se.trans {x y z:AV} {a b c:St} (h:se x a y b) (k:se y b z c):se x a z c:=fun g w v hs hr =>
 let ⟨g1,l1,s1,r1⟩:=h g w v hs hr
 let ⟨g2,l2,s2,r2⟩:=k g1 w v s1 r1
 ⟨g2,l1.trans l2,s2,r2⟩
def Ap (P:Program) (t:TypeId) (p:AV) (U:St) (k:AV->Prop):Prop :=
 match uz P t p U with
 | .val v=>k v
 | @ay.cond q _ (.val v)=>q/\k v
 | _=>False
def vd (P:Program) (ρ:Env) (U:St):List ResultVar->(List AV->Prop)->Prop
 | [],k=>k []
 | .tmp t::rs,k=>vd P ρ U rs fun vs=>k (ρ.get t::vs)
 | .cell t ty::rs,k=>Ap P ty (ρ.get t) U fun v=>vd P ρ U rs fun vs=>k (v::vs)
def vi:List AV->AV
 | [x]=>x
 | l=>.aG l
def afa (P:Program) (fn:Func) (R:cO->St->Prop):Ex->Env->St->Prop
 | .normal,ρ,U | .ret,ρ,U=>vd P ρ U fn.results.toList fun vs=>∃ x af,se (vi vs) U x af/\R (.ret x) af
 | .panic x,_,U=>R (.panic x) U
 | .exit _,_,_=>False
def Env.jG (args:List AV):Env:=⟨fun t=>args.getD t (.aG [])⟩
section
variable {C:cT} {g:Gh} {U:St} {w:World} {nt:Nat} {ro:Ro} {Q:Ex->Env->St->Prop} {ρ:Env}
theorem Oq (h:bp g U w) {t:TypeId} {p:AV} {v:Value} (hp:aE g p v) {k:AV->Prop} (hk:Ap C.P t p U k):∃ u x,(do loadVar t (<- asAddr v):Sem Value).run C.P w=.ok u w/\aE g x u/\k x:=by
 unfold Ap uz at hk
 cases hv:nO C.P t with
 | none=>simp [hv] at hk
 | some bs =>
   obtain ⟨b,sz⟩:=bs
   cases hl:mc U p with
   | none=>rw [hv,hl] at hk; cases b <;> simp at hk
   | some l =>
     rw [hv,hl] at hk
     obtain ⟨i,d,hi,hd,hb,eH⟩:=oy hv
     obtain ⟨a,vs,rfl,ha,hr,hc⟩:=rj h hp hl
     cases b
     . cases l with
       | nil=>simp [iH] at hk
       | cons x xs =>
         simp only [iH] at hk
         simp only [aH] at hr
         obtain ⟨u,us,rfl,h1,h2⟩:=hr
         have:=(hc 0 u rfl).1
         have h0:a.add 0=a:=by simp [Addr.add]
         rw [h0] at this
         refine ⟨u,x,?_,h1,hk⟩
         simp only [asAddr,loadVar,cm,cP,cI,lx hd,hb,bC,if_false,run_load,this,eZ]
     . obtain ⟨hle,hk⟩:=hk
       have hlen:=hr.length
       have gZ:(loadCells a (vs.take sz).length).run C.P w=.ok (vs.take sz).toArray w :=
        run_loadCells_list (P:=C.P) w a (vs.take sz) fun j u hu=>by
         rw [List.getElem?_take] at hu
         split at hu
         . exact (hc j u hu).1
         . cases hu
       have qi:(vs.take sz).length=sz:=by simp; omega
       rw [qi] at gZ
       have Ns:∀ u ∈ vs.take sz,u.oneCell'=true:=fun u hu=>by
        obtain ⟨j,hj⟩:=List.getElem?_of_mem hu
        rw [List.getElem?_take] at hj
        split at hj
        . exact (hc j u hj).2
        . cases hj
       refine ⟨.agg (vs.take sz).toArray,_,?_,?_,hk⟩
       . simp only [asAddr,loadVar,cm,cP,cI,lx hd,hb,if_true,eK hi,eH,gZ,eZ]
       . simp only [aE]; exact ⟨_,rfl,Ns,hr.take sz⟩
theorem BM (h:bp g U w) {a:Act} (hr:gM g ρ a.tmps):∀ (rs:List ResultVar) (k:List AV->Prop),vd C.P ρ U rs k ->
 ∃ us xs,(rs.mapM (fun
  | .tmp t=>pure (a.tmps.getD t undef)
  | .cell p t=>do loadVar t (<- asAddr (a.tmps.getD p undef)):ResultVar->Sem Value)).run C.P w=.ok us w/\aH g xs us/\k xs
 | [],k,hk=>⟨[],[],by simp,by simp [aH],hk⟩
 | .tmp t::rs,k,hk=>by
   obtain ⟨us,xs,h1,h2,h3⟩:=BM h hr rs _ hk
   exact ⟨a.tmps.getD t undef::us,ρ.get t::xs,by simp only [List.mapM_cons,cm,cP,cI,h1],by simp only [aH]; exact ⟨_,_,rfl,hr t,h2⟩,h3⟩
 | .cell p t::rs,k,hk=>by
   obtain ⟨u,x,h4,h5,h6⟩:=Oq h (hr p) hk
   obtain ⟨us,xs,h1,h2,h3⟩:=BM h hr rs _ h6
   simp only [cm] at h4
   exact ⟨u::us,x::xs,by simp only [List.mapM_cons,cm,cP,h4,cI,h1],by simp only [aH]; exact ⟨_,_,rfl,h5,h2⟩,h3⟩
theorem Bd (h:bp g U w) {a:Act} (hr:gM g ρ a.tmps) {fn:Func} {k:List AV->Prop} (hk:vd C.P ρ U fn.results.toList k) :
 ∃ u xs,(results fn a.tmps).run C.P w=.ok u w/\aE g (vi xs) u/\k xs:=by
 obtain ⟨us,xs,h1,h2,h3⟩:=BM h hr _ k hk
 have e:(results fn a.tmps).run C.P w=.ok (if h:us.toArray.size=1 then us.toArray[0] else .tuple us.toArray) w:=by
  unfold results
  rw [Array.mapM_eq_mapM_toList]
  simp only [cm,Sem.run_map,cP]
  erw [h1]
  rfl
 refine ⟨_,xs,e,?_,h3⟩
 match xs,us,h2 with
 | [],us,h2 =>
   simp only [aH] at h2; subst h2
   simp [vi,aE,aH]
 | [x],us,h2 =>
   simp only [aH] at h2
   obtain ⟨u,_,rfl,h4,rfl⟩:=h2
   simpa [vi] using h4
 | x::y::zs,us,h2 =>
   have hl:=h2.length
   rw [dif_neg (by simp at hl ⊢; omega)]
   simp only [vi,aE]
   exact ⟨us,rfl,h2⟩
theorem Bn (args:List AV) (vs:List Value) (n:Nat) (ha:aH g args vs):gM g (Env.jG args) (vs.toArray++Array.replicate n undef):=fun t=>by
 simp only [Env.jG,Array.getD_eq_getD_getElem?,mv,Array.getElem?_append,List.size_toArray,List.getElem?_toArray]
 have hl:=ha.length
 by_cases ht:t < vs.length
 . rw [if_pos ht]
   obtain ⟨x,hx⟩:∃ x,args[t]?=some x:=⟨args[t]'(by omega),by simp⟩
   obtain ⟨v,hv,hr⟩:=ha.get hx
   rw [hx,hv]; exact hr
 . rw [if_neg ht,zE (by omega)]
   simp only [Option.getD_none]
   have:((Array.replicate n undef)[t - vs.length]?).getD undef=undef:=by
    rw [Array.getElem?_replicate]; split <;> rfl
   rw [this]; exact uJ
theorem ql {fn:Func} {a:Act} {R:cO->St->Prop} (g0:Gh):∀ (ms:List Nat) (g:Gh) (w:World) (u:FrameMode),ms.Nodup->(∀ r ∈ ms,g.res r=true/\g0.res r=false)->Gh.Le g0 g->bp g U w->gM g ρ a.tmps ->
 ((u=.returning/\vd C.P ρ U fn.results.toList fun vs=>∃ x af,se (vi vs) U x af/\R (.ret x) af)\/(∃ x v,u=.panicking [{ v,recovered:=false }]/\aE g x v/\R (.panic x) U)) ->
 LeavesInM Fence.wide 0 C.P fn a.tmps (oH g0 R) (ms.map Ga) u w
 | [],g,w,u,_,_,hle,hs,hr,h=>by
   simp only [jU,LeavesInM]
   rcases h with ⟨rfl,h⟩ | ⟨x,v,rfl,hx,h⟩
   . obtain ⟨v,xs,gZ,hv,x,af,ht,hR⟩:=Bd hs hr h
     obtain ⟨g',Lt,eE,hx⟩:=ht g w v hs hv
     exact ⟨v,gZ,g',af,x,hle.trans Lt,eE,hx,hR⟩
   . exact ⟨g,U,x,v,rfl,hle,hs,hx,h⟩
 | r::ms,g,w,u,hnd,y6,hle,hs,hr,h=>by
   simp only [dV,LeavesInM]
   refine ⟨by rcases h with ⟨rfl,_⟩ | ⟨_,_,rfl,_⟩ <;> simp,.inl ⟨r,{ w with heap:=w.heap.setIfInBounds r (Obj.deferred none) },rfl,?_,?_⟩⟩
   . obtain ⟨_,hh⟩:=hs.res r (y6 r (by simp)).1
     simp [Instr.takeDeferred,getObj,setObj,cm,Sem.run,hh,Result.andThen]
   . have hlR:Gh.tg g { g with res:=fun x=>if x=r then false else g.res x }:=⟨fun _ _ h=>h,fun _ _ _ h=>h,fun _ _ h=>h⟩
     refine ql g0 ms { g with res:=fun x=>if x=r then false else g.res x } _ u (List.nodup_cons.1 hnd).2 (fun q hq=>?_) ?_ (hs.shut (y6 r (by simp)).1) (fun t=>(hr t).eU hlR) ?_
     . refine ⟨?_,(y6 q (by simp [hq])).2⟩
       show (if q=r then false else g.res q)=true
       rw [if_neg (fun e:q=r=>by subst e; exact (List.nodup_cons.1 hnd).1 hq)]
       exact (y6 q (by simp [hq])).1
     . refine ⟨hle.base,hle.w0,hle.place,hle.cC,hle.cj,fun q hq=>?_,hle.ze,hle.vT⟩
       show (if q=r then false else g.res q)=true
       have cV:q ≠ r:=fun e=>by subst e; rw [(y6 q (by simp)).2] at hq; cases hq
       rw [if_neg cV]
       exact hle.res q hq
     . rcases h with h | ⟨x,v,h1,h2,h3⟩
       . exact .inl h
       . exact .inr ⟨x,v,h1,h2.eU hlR,h3⟩
theorem ag.KD {f:FuncId} {fn:Func} {c:Code} {args:List AV} {R:cO->St->Prop} (hf:C.P.funcs[f]?=some fn) (hb:fn.body=some c) (hlen:args.length <= fn.ntmps)
 (h:bI C fn.ntmps .fn c (afa C.P fn R) (Env.jG args) U):ag C f args U R:=by
 intro g w vs hs hG ha
 have hl:=ha.length
 refine callsIn_of_wp_marks hf hb trivial ?_
 have DM:=Bn args vs (fn.ntmps - args.length) ha
 have:=h g w { tmps:=vs.toArray++Array.replicate (fn.ntmps - vs.toArray.size) undef,defers:=[] } none hs hG (by
  have e:vs.toArray.size=args.length:=by simpa using hl
  rw [e]; exact DM) (by simp; omega) trivial
 refine wpIn_mono this ?_
 rintro e a w' ⟨k1,g',af,dY,ms,k2,k3,k4,k5,k6,k7⟩
 simp only [gw] at k2
 cases e with
 | normal =>
   show LeavesInM _ _ _ _ _ _ a.defers _ _
   rw [k2]
   exact ql g ms g' w' _ k3.nodup k3.res k4 k5 k6 (.inl ⟨rfl,k7⟩)
 | ret =>
   show LeavesInM _ _ _ _ _ _ a.defers _ _
   rw [k2]
   exact ql g ms g' w' _ k3.nodup k3.res k4 k5 k6 (.inl ⟨rfl,k7⟩)
 | panic ch =>
   obtain ⟨x,v,rfl,hx,hR⟩:=k7
   show LeavesInM _ _ _ _ _ _ a.defers _ _
   rw [k2]
   exact ql g ms g' w' _ k3.nodup k3.res k4 k5 k6 (.inr ⟨x,v,rfl,hx,hR⟩)
 | exit id=>exact k7.elim
 | goto l=>exact k7.elim
 | outgrown=>exact k7.elim
def Pure (C:cT) (f:FuncId) (args:List AV) (x:AV):Prop:=∀ U R,R (.ret x) U->ag C f args U R
end
end Go.Rip
namespace Go.Rip
open Go.RowKit
section
variable {C:cT} {g:Gh} {U:St} {w:World} {nt:Nat} {ro:Ro} {Q:Ex->Env->St->Prop} {ρ:Env}
def aaF (o:Nat) (Q:Ex->Env->St->Prop) (ρ:Env):cO->St->Prop
 | .ret _,af=>∃ L,af.loop o=some L/\L.state ≠ .busy/\(match L.fM with
   | none=>Q .normal ρ (af.del o)
   | some .ret=>Q .ret ρ (af.del o)
   | some (.exit id)=>Q (.exit id) ρ (af.del o)
   | _=>False)
 | .panic x,af=>Q (.panic x) ρ af
theorem bp.Sg (h:bp g U w) {o:Nat} {L:fp} {p:Place} (ho:U.loop o=some L) (hp:g.place o=some p) (x:Loop) :
 bp g (U.del o) { w with heap:=w.heap.setIfInBounds p.aN (.loop x) }:=by
 obtain ⟨p',k1,k2,fn,tmps,defers,k3,_⟩:=h.live o _ (St.mP.1 ho)
 rw [hp] at k1; cases k1
 refine (h.weaken (St.vC U o)).change p.aN k2 (Gh.Le.refl g) rfl rfl ⟨rfl,rfl,rfl,by simp⟩ (fun k hk _=>Array.getElem?_setIfInBounds_ne (Ne.symm hk)) (fun _ _ _=>rfl) (fun _ _=>rfl) (fun q u hu=>?_) (fun es c hr=>?_) (fun b' x' p' h1 h2 e=>?_) (h.xH (St.mP.1 ho) hp)
 . have:=(h.cC _ _ _ hu).1; simp [World.cell?,k3] at this
 . have:=(h.cj _ _ _ hr).1; rw [k3] at this; cases this
 . simp only [St.del] at h1
   split at h1
   . cases h1
   . rename_i ne; exact ne (h.apart _ _ _ _ _ _ h1 (St.mP.1 ho) h2 hp e)
theorem bp.qV (h:bp g U w) {o:Nat} {L L':fp} {p:Place} (ho:U.loop o=some L) (hp:g.place o=some p) {fn:FuncId} {tmps:Array Value} {defers:Nat}
 (hn:tmps.size=L'.nt) (hr:∀ t,aE g (L'.ρ t) (tmps.getD t undef)) :
 bp g (U.set o (.loop L')) { w with heap:=w.heap.setIfInBounds p.aN (.loop { state:=L'.state,pending:=L'.fM,fn,tmps,params:=L'.params,assign:=L'.assign,body:=L'.body,defers }) }:=by
 obtain ⟨p',k1,k2,Uy,Gg,Ah,k3,_⟩:=h.live o _ (St.mP.1 ho)
 rw [hp] at k1; cases k1
 have aM:=(kG.1 k3).1
 refine h.rewrite (St.mP.1 ho) hp ⟨rfl,rfl,rfl,by simp⟩ (fun k hk _=>Array.getElem?_setIfInBounds_ne (Ne.symm hk)) (fun q=>?_) ?_ ⟨fn,tmps,defers,by simp [aM],hn,hr⟩
 . cases e:g.cC p.aN q with
   | none=>rfl
   | some u=>have:=(h.cC _ _ _ e).1; simp [World.cell?,k3] at this
 . cases e:g.cj p.aN with
   | none=>rfl
   | some u=>have:=(h.cj _ _ _ e).1; rw [k3] at this; cases this
theorem bI.rangeFunc (tag:Nat) {f:Operand} {ps:Array Tmp} {assign body:Code} {tn:FuncId} {first cap:List AV} (hf:ρ.ev C f=.func (.func tn) first cap) (tA:gj C.P tn=true)
 (h:∀ o,U.dw o->ag C tn (first++[.qI o]++cap) (U.new o (.loop ⟨ρ.get,nt,ps,assign,body,.ready,none,tag⟩)) (aaF o Q ρ)):bI C nt .fn (.rangeFunc f ps assign body) Q ρ U:=by
 intro g w a fr hs hG hr hn tB
 cases fr with
 | some l=>exact tB.elim
 | none =>
 have ZT:=tm hG hr f
 rw [hf] at ZT
 simp only [aE] at ZT
 obtain ⟨fs,cs,hval,ND,tw⟩:=ZT
 refine wpIn_rangeFunc fun fn _=>?_
 obtain ⟨Hc,vQ⟩:=hs.WD
 have hrE:=hr.mono Hc
 obtain ⟨o,g2,f1,f2,f3,f4⟩:=vQ.tL (.loop { state:=.ready,pending:=none,fn:=fn,tmps:=a.tmps,params:=ps,assign,body,defers:=w.heap.size }) 0 0 (.loop ⟨ρ.get,nt,ps,assign,body,.ready,none,tag⟩)
  fun g' hle _ _=>⟨fn,a.tmps,w.heap.size,heap_alloc_new _ _,hn,fun t=>(hrE t).mono hle⟩
 have tE:=Hc.trans f2
 obtain ⟨GV,hfn,Kf,UP⟩:∃ GV,C.P.funcs[tn]?=some GV/\GV.body.isNone=false/\(GV.name == "runtime.NumGoroutine")=false:=by
  unfold gj at tA
  split at tA
  . rename_i GV hfn
    simp only [bX,Bool.not_eq_true'] at tA
    exact ⟨GV,hfn,by cases hb:GV.body <;> simp_all,tA.2⟩
  . cases tA
 refine ⟨w.heap.size+1,[{ target:=.collected w.heap.size,args:=#[] }],((w.alloc (.deferred (some []))).alloc (.loop { state:=.ready,pending:=none,fn:=fn,tmps:=a.tmps,params:=ps,assign,body,defers:=w.heap.size })),
  { target:=.fn (.func tn) cs.toArray,args:=fs.toArray++#[.func (.yield (w.heap.size+1)) #[] #[]] },((w.alloc (.deferred (some []))).alloc (.loop { state:=.ready,pending:=none,fn:=fn,tmps:=a.tmps,params:=ps,assign,body,defers:=w.heap.size })),tn,(fs.toArray++#[.func (.yield (w.heap.size+1)) #[] #[]])++cs.toArray,((w.alloc (.deferred (some []))).alloc (.loop { state:=.ready,pending:=none,fn:=fn,tmps:=a.tmps,params:=ps,assign,body,defers:=w.heap.size })),?_,?_,fun _ _=>trivial,?_,fun hd=>by simp [FW,Fence.wide] at hd,?_⟩
 . simp only [Instr.enterLoop,FW,cm,run_newObj,cP,cI]
   rw [Array.size_push]
   rfl
 . simp only [resolve,rangeCall,List.map_toArray,dV,jU]
   rw [hval]
   simp only [Deferred.ofValue,cP]
   rfl
 . simp only [invoke,callFunc,cm,cP,cI,run_program,hfn,UP,Kf,bC,if_false,eZ]
 . have hc:=h o f1 g2 _ (fs++[Value.func (.yield (w.heap.size+1)) #[] #[]]++cs) f4 (hG.mono tE) (((ND.mono tE).append (by
    simp only [aH]
    exact ⟨_,_,rfl,by simp only [aE]; exact ⟨_,f3,by simp⟩,rfl⟩)).append (tw.mono tE))
   have e:(fs++[Value.func (.yield (w.heap.size+1)) #[] #[]]++cs).toArray=fs.toArray++#[Value.func (.yield (w.heap.size+1)) #[] #[]]++cs.toArray:=by simp
   rw [e] at hc
   have yh:CallsIn (FW none) 0 C.P tn _ _ _:=hc
   refine yh.mono ?_
   rintro e w3 hp
   have NO:∀ g3,Gh.Le g2 g3->oB false g g3 [w.heap.size]:=fun g3 hl=>⟨fun h=>(by cases h),by simp,fun r hr=>by
    simp only [kH] at hr; subst hr
    exact ⟨hl.res _ (f2.res _ (by simp)),hs.D1 (gE _)⟩⟩
   cases e with
   | returned v =>
     obtain ⟨g3,cz,x,h1,h2,h3,L,h4,h5,h6⟩:=hp
     obtain ⟨p,q1,q2,Uy,Gg,Ah,q3,q4,q5⟩:=h2.live o _ (St.mP.1 h4)
     have ll:g3.place o=some ⟨w.heap.size+1,0,0⟩:=h1.place _ _ (by rw [f3]; simp)
     rw [ll] at q1; cases q1
     have vN:(getObj (w.heap.size+1)).run C.P w3=.ok (.loop { state:=L.state,pending:=L.fM,fn:=Uy,tmps:=Gg,params:=L.params,assign:=L.assign,body:=L.body,defers:=Ah }) w3:=by simp [getObj,Sem.run,q3]
     have Hq:∀ x,(setObj (w.heap.size+1) x).run C.P w3=.ok () { w3 with heap:=w3.heap.setIfInBounds (w.heap.size+1) x }:=fun x=>by simp [setObj,Sem.run,q3]
     have acp:(L.state == LoopState.busy)=false:=by
      cases hL:L.state <;> first
       | rfl
       | exact absurd hL h5
     have tz:(Instr.endLoop (w.heap.size+1)).run C.P w3=.ok L.fM { w3 with heap:=w3.heap.setIfInBounds (w.heap.size+1) (.loop { state:=.exhausted,pending:=L.fM,fn:=Uy,tmps:=Gg,params:=L.params,assign:=L.assign,body:=L.body,defers:=Ah }) }:=by
      simp only [Instr.endLoop,Instr.getLoop,cm,vN,cI,cP,acp,bC,if_false,eZ,Hq]
     have hs3:=h2.Sg h4 ll { state:=.exhausted,pending:=L.fM,fn:=Uy,tmps:=Gg,params:=L.params,assign:=L.assign,body:=L.body,defers:=Ah }
     have post:∀ ex,GN g3 Q ρ (cz.del o) ex->qp g nt false a.defers Q ex { a with defers:=[{ target:=.collected w.heap.size,args:=#[] }]++a.defers } _:=fun ex hq =>
      ⟨hn,g3,cz.del o,ρ,[w.heap.size],rfl,NO g3 h1,tE.trans h1,hs3,hr.mono (tE.trans h1),hq⟩
     refine ⟨L.fM,_,tz,?_⟩
     generalize L.fM=fM at h6 post ⊢
     cases fM with
     | none=>exact post .normal h6
     | some c =>
       cases c <;> first
        | exact h6.elim
        | exact wpIn_exit (post (.exit _) h6)
        | exact wpIn_ret (post .ret h6)
   | panicked ch =>
     obtain ⟨g3,cz,x,v,rfl,h1,h2,h3,h4⟩:=hp
     exact ⟨hn,g3,cz,ρ,[w.heap.size],rfl,NO g3 h1,tE.trans h1,h2,hr.mono (tE.trans h1),x,v,rfl,h3,h4⟩
   | outgrown=>exact hp.elim
def xz (ρ:Nat->AV):List Tmp->List AV->Nat->AV
 | t::ts,v::vs=>xz (fun x=>if x=t then v else ρ x) ts vs
 | _,_=>ρ
theorem HW {ρ:Nat->AV} {tmps:Array Value}:∀ (ps:List Tmp) (args:List AV) (vs:List Value) (ρ:Nat->AV) (tmps:Array Value),(∀ t,aE g (ρ t) (tmps.getD t undef))->(∀ t ∈ ps,t < tmps.size)->aH g args vs ->
 ((ps.zip vs).foldl (fun (tmps:Array Value) (p:Tmp × Value)=>tmps.setIfInBounds p.1 p.2) tmps).size=tmps.size/\∀ t,aE g (xz ρ ps args t) (((ps.zip vs).foldl (fun (tmps:Array Value) (p:Tmp × Value)=>tmps.setIfInBounds p.1 p.2) tmps).getD t undef)
 | [],args,vs,ρ,tmps,h,_,_=>by simpa [xz] using h
 | t::ts,[],vs,ρ,tmps,h,_,ha=>by
   simp only [aH] at ha; subst ha
   simpa [xz] using h
 | t::ts,x::args,vs,ρ,tmps,h,hl,ha=>by
   simp only [aH] at ha
   obtain ⟨v,vs,rfl,hx,ha⟩:=ha
   simp only [List.zip_cons_cons,List.foldl_cons,xz]
   have h1:∀ t',aE g ((fun y=>if y=t then x else ρ y) t') ((tmps.setIfInBounds t v).getD t' undef):=(gM.put (g:=g) (ρ:=⟨ρ⟩) h (hl t (by simp)) hx)
   obtain ⟨h2,h3⟩:=HW (ρ:=ρ) (tmps:=tmps) ts args vs _ (tmps.setIfInBounds t v) h1 (fun t' nQ=>by simpa using hl t' (by simp [nQ])) ha
   exact ⟨by rw [h2]; simp,h3⟩
def aaI (o:Nat) (R:cO->St->Prop):Ex->Env->St->Prop
 | .normal,_,U=>∃ L,U.loop o=some L/\R (.ret (.bool true)) (U.set o (.loop { L with state:=.ready,fM:=none }))
 | .ret,_,U=>∃ L,U.loop o=some L/\R (.ret (.bool false)) (U.set o (.loop { L with state:=.done,fM:=some .ret }))
 | .exit id,_,U=>∃ L,U.loop o=some L/\R (.ret (.bool false)) (U.set o (.loop { L with state:=.done,fM:=some (.exit id) }))
 | .panic _,_,_=>False
def Wc (C:cT) (o:Nat) (body:Code) (nt:Nat) (R:cO->St->Prop):Ex->Env->St->Prop
 | .normal,ρ,U=>∃ L,U.loop o=some L/\L.state=.ready/\bI C nt (.round o) body (aaI o R) ρ (U.set o (.loop { L with state:=.busy }))
 | _,_,_=>False
theorem ma.HR {o:Nat} {args:List AV} {R:cO->St->Prop} {L:fp} (hL:U.loop o=some L) (hargs:args.length=L.params.size) (hps:∀ t ∈ L.params.toList,t < L.nt)
 (h:bI C L.nt (.round o) L.assign (Wc C o L.body L.nt R) ⟨xz L.ρ L.params.toList args⟩ U):ma C o args U R:=by
 intro g w vs x hs hG ha hx
 obtain ⟨p,k1,k2,fn,tmps,defers,k3,k4,k5⟩:=hs.live o _ (St.mP.1 hL)
 rw [hx] at k1; cases k1
 have vN:(getObj x.aN).run C.P w=.ok (.loop { state:=L.state,pending:=L.fM,fn,tmps,params:=L.params,assign:=L.assign,body:=L.body,defers }) w:=by simp [getObj,Sem.run,k3]
 have eH:vs.length=L.params.size:=by rw [ha.length,hargs]
 obtain ⟨z1,z2⟩:=HW (g:=g) (ρ:=L.ρ) (tmps:=tmps) L.params.toList args vs L.ρ tmps k5 (fun t ht=>by rw [k4]; exact hps t ht) ha
 have acf:(L.params.zip vs.toArray).foldl (fun (tmps:Array Value) (p:Tmp × Value)=>tmps.setIfInBounds p.1 p.2) tmps=(L.params.toList.zip vs).foldl (fun (tmps:Array Value) (p:Tmp × Value)=>tmps.setIfInBounds p.1 p.2) tmps:=by
  rw [<- Array.foldl_toList]; congr 1; simp
 refine ⟨fn,(L.params.toList.zip vs).foldl (fun (tmps:Array Value) (p:Tmp × Value)=>tmps.setIfInBounds p.1 p.2) tmps,L.assign,L.body,?_,?_⟩
 . simp only [Instr.yield,Instr.getLoop,cm,vN,cI,cP,List.size_toArray,eH,ne_eq,not_true_eq_false,if_false,eZ]
   rw [<- acf]
 . refine roundIn_of_wpIn trivial ?_
   have h1:=h g w { tmps:=(L.params.toList.zip vs).foldl (fun (tmps:Array Value) (p:Tmp × Value)=>tmps.setIfInBounds p.1 p.2) tmps,defers:=[] } (some x.aN) hs hG z2 (by rw [<- k4]; exact z1) ⟨x,hx,rfl⟩
   have tq:L.assign.wpIn (Fence.wide.inRound x.aN) 0 C.P _ _ _:=h1
   refine wpIn_mono tq ?_
   rintro e a1 w1 ⟨q1,g1,aQ,ρ1,ms,q2,q3,q4,q5,q6,q7⟩
   cases e with
   | normal =>
     obtain ⟨L1,r1,r2,r3⟩:=q7
     obtain ⟨p,k1,k2,fn,tmps,defers,k3,k4,k5⟩:=q5.live o _ (St.mP.1 r1)
     rw [q4.place _ _ hx] at k1; cases k1
     have vN:(getObj x.aN).run C.P w1=.ok (.loop { state:=L1.state,pending:=L1.fM,fn,tmps,params:=L1.params,assign:=L1.assign,body:=L1.body,defers }) w1:=by simp [getObj,Sem.run,k3]
     have Hq:∀ y,(setObj x.aN y).run C.P w1=.ok () { w1 with heap:=w1.heap.setIfInBounds x.aN y }:=fun y=>by simp [setObj,Sem.run,k3]
     have rT:=q5.qV (L':={ L1 with state:=.busy }) (fn:=fn) (defers:=defers) r1 (q4.place _ _ hx) k4 k5
     refine ⟨_,by simp only [Instr.beginRound,Instr.getLoop,cm,vN,cI,cP,Hq,r2]; rfl,?_⟩
     have h2:=r3 g1 _ a1 (some x.aN) rT (hG.mono q4) q6 q1 ⟨x,q4.place _ _ hx,rfl⟩
     have AO:L.body.wpIn (Fence.wide.inRound x.aN) 0 C.P _ _ _:=h2
     refine wpIn_mono AO ?_
     rintro e a2 w2 ⟨Vh,g2,bg,qF,HL,q2',q3',q4',q5',q6',KH⟩
     have hx2:=(q4.trans q4').place _ _ hx
     have fin:∀ (L2:fp) (jump:Option Code) (st:LoopState),bg.loop o=some L2->(if jump.isNone then LoopState.ready else .done)=st->R (.ret (.bool jump.isNone)) (bg.set o (.loop { L2 with state:=st,fM:=jump })) ->
      ∃ v w',(Instr.endRound x.aN jump).run C.P w2=.ok v w'/\oH g R (.returned v) w':=fun L2 jump st hl gD hR=>by
      obtain ⟨p,k1,k2,fn,tmps,defers,k3,k4,k5⟩:=q5'.live o _ (St.mP.1 hl)
      rw [hx2] at k1; cases k1
      have vN:(getObj x.aN).run C.P w2=.ok (.loop { state:=L2.state,pending:=L2.fM,fn,tmps,params:=L2.params,assign:=L2.assign,body:=L2.body,defers }) w2:=by simp [getObj,Sem.run,k3]
      have Hq:∀ y,(setObj x.aN y).run C.P w2=.ok () { w2 with heap:=w2.heap.setIfInBounds x.aN y }:=fun y=>by simp [setObj,Sem.run,k3]
      have hs3:=q5'.qV (L':={ L2 with state:=st,fM:=jump }) (fn:=fn) (defers:=defers) hl hx2 k4 k5
      refine ⟨.bool jump.isNone,_,by simp only [Instr.endRound,Instr.getLoop,cm,vN,cI,cP,Hq,gD],g2,_,.bool jump.isNone,q4.trans q4',hs3,by simp only [aE],hR⟩
     cases e with
     | normal=>obtain ⟨L2,hl,hR⟩:=KH; exact fin L2 none .ready hl rfl hR
     | ret=>obtain ⟨L2,hl,hR⟩:=KH; exact fin L2 (some .ret) .done hl rfl hR
     | exit id=>obtain ⟨L2,hl,hR⟩:=KH; exact fin L2 (some (.exit id)) .done hl rfl hR
     | panic ch=>obtain ⟨x,v,_,_,hf⟩:=KH; exact hf.elim
     | goto l=>exact KH.elim
     | outgrown=>exact KH.elim
   | panic ch=>obtain ⟨x,v,_,_,hf⟩:=q7; exact hf.elim
   | ret=>exact q7.elim
   | exit id=>exact q7.elim
   | goto l=>exact q7.elim
   | outgrown=>exact q7.elim
end
end Go.Rip
namespace Go.Rip
open Go.RowKit
section
variable {C:cT} {g:Gh} {U af:St} {w:World} {nt:Nat} {nm:Bool} {ro:Ro} {fr:Option Nat} {Q:Ex->Env->St->Prop} {ρ dY:Env} {mu:Bool}
theorem tK {l:List Operand} (h:∀ x ∈ l,ρ.ev C x=dY.ev C x):l.map (ρ.ev C)=l.map (dY.ev C):=List.map_congr_left h
theorem yd {parts:Array (Nat × Operand)} (h:∀ x ∈ (parts.toList.map (·.2)).toArray,ρ.ev C x=dY.ev C x):mg C ρ parts=mg C dY parts:=by
 unfold mg
 apply List.map_congr_left
 intro p hp
 rw [h p.2 (by simp; exact ⟨p.1,by simpa using hp⟩)]
theorem OF (o:Op) (h:∀ x ∈ o.operands,ρ.ev C x=dY.ev C x):jH C mu o ρ U=jH C mu o dY U:=by
 cases o with
 | call c =>
   obtain ⟨callee,⟨args⟩,⟨VR⟩⟩:=c
   simp only [jH,Ag]
   have ha:args.map (ρ.ev C)=args.map (dY.ev C):=tK fun x hx=>h x (by simp only [Op.operands,Call.operands]; rw [Array.mem_append]; exact .inr (by simpa using hx))
   cases callee with
   | value f =>
     show jW C.P (ρ.ev C f) (args.map (ρ.ev C))=jW C.P (dY.ev C f) (args.map (dY.ev C))
     rw [ha,h f (by simp [Op.operands,Call.operands])]
   | invoke r m=>rfl
   | builtin b =>
     have hm:∀ x ∈ args,ρ.ev C x=dY.ev C x:=fun x hx=>h x (by simp only [Op.operands,Call.operands]; rw [Array.mem_append]; exact .inr (by simpa using hx))
     split <;> simp_all
 | build t parts=>simp only [jH]; rw [yd h]
 | buildSlice t n parts=>simp only [jH]; rw [yd h]
 | makeFunc fn first cap =>
   simp only [jH]
   rw [tK (l:=first.toList) fun x hx=>h x (by simp [Op.operands]; exact .inl (by simpa using hx)),tK (l:=cap.toList) fun x hx=>h x (by simp [Op.operands]; exact .inr (by simpa using hx))]
 | slice t x lo hi m =>
   cases m with
   | some _=>rfl
   | none =>
     simp only [jH]
     have h1:=h x (by simp [Op.operands])
     have h2:lo.map (ρ.ev C)=lo.map (dY.ev C):=by
      cases lo with
      | none=>rfl
      | some y=>simp only [Option.map_some]; rw [h y (by simp [Op.operands])]
     have h3:hi.map (ρ.ev C)=hi.map (dY.ev C):=by
      cases hi with
      | none=>rfl
      | some y=>simp only [Option.map_some]; rw [h y (by simp [Op.operands])]
     rw [h1,h2,h3]
 | makeMap t r=>cases r <;> rfl
 | next i b=>cases b <;> simp_all [jH,Op.operands]
 | _=>simp_all [jH,Op.operands]
def dK:AV->List Nat
 | .box b _=>[b]
 | .ms b _ _ _ _=>[b]
 | .mp m=>[m]
 | .it o=>[o]
 | .vec _ (.own τ) _=>[τ]
 | _=>[]
theorem Wf {b:Nat} (h:af.live b=U.live b):af.box b=U.box b:=by simp only [St.box,h]
theorem IX {p:AV} (h:∀ b ∈ dK p,af.live b=U.live b):mc af p=mc U p:=by
 cases p <;> simp only [mc]
 rw [Wf (h _ (by simp [dK]))]
def quiet:Op->Bool
 | .move _ | .assign _ | .pick .. | .load .. | .build .. | .buildSlice .. | .fieldAddr .. | .field .. | .indexAddr .. | .index .. | .binOp .. | .unOp .. | .convert .. | .nilCheck _ | .lookup .. | .extract .. | .makeInterface .. | .makeFunc ..
 | .slice ..=>true
 | .call c=>match c.callee with
   | .value _=>true
   | .builtin .len | .builtin .min | .builtin .max=>true
   | _=>false
 | _=>false
def oJ:Op->Bool
 | .load .. | .lookup ..=>true
 | _=>false
theorem WQ (o:Op) (hq:quiet o=true) (h:oJ o=true->∀ x ∈ o.operands,∀ b ∈ dK (ρ.ev C x),af.live b=U.live b):jH C mu o ρ af=jH C mu o ρ U:=by
 cases o with
 | call c =>
   obtain ⟨callee,⟨args⟩,⟨VR⟩⟩:=c
   simp only [jH,Ag]
   cases callee with
   | value f=>rfl
   | invoke r m=>rfl
   | builtin b =>
     cases b <;> simp only [quiet,bC] at hq
     all_goals (split <;> first
      | rfl
      | (simp only [HF]; done)
      | contradiction
      | simp_all)
 | load t a =>
   simp only [jH,uz]
   rw [IX (h rfl a (by simp [Op.operands]))]
 | lookup t m k ok =>
   have:=h rfl m (by simp [Op.operands])
   simp only [jH,wb]
   generalize ρ.ev C m=y at this ⊢
   cases y <;> simp_all [dK,St.mp,mL]
 | slice t x lo hi m=>cases m <;> rfl
 | _=>first | rfl | simp [quiet] at hq
theorem ay.wp_mono {K K':AV->St->Prop} {Kp:AV->St->Prop} (hk:∀ v U,K v U->K' v U):∀ (r:ay) {U:St},r.wp C U K Kp->r.wp C U K' Kp
 | .val _,_,h=>hk _ _ h
 | .ir _ _ _,_,h=>hk _ _ h
 | .new _ _ _,_,h=>fun b hb=>hk _ _ (h b hb)
 | .lh _ _,_,h=>fun p hp=>hk _ _ (h p hp)
 | .enter _ _,_,h=>ag.mono h fun r U hr=>by cases r <;> first | exact hk _ _ hr | exact hr
 | .yield _ _,_,h=>ma.mono h fun r U hr=>by cases r <;> first | exact hk _ _ hr | exact hr
 | .panic _,_,h=>h
 | @ay.cond _ _ r,_,h=>⟨h.1,ay.wp_mono hk r h.2⟩
 | .bad,_,h=>h
theorem J2 {x:Operand} {dst:Option Tmp} {v:AV} (h:∀ d,dst=some d->x ≠ .tmp d):(ρ.eB dst v).ev C x=ρ.ev C x:=by
 cases dst with
 | none=>rfl
 | some d =>
   cases x <;> simp only [Env.eB,Env.put,Env.ev]
   rename_i t
   rw [if_neg (fun e=>h d rfl (by rw [e]))]
theorem KF (ops:Array Oper) (o:Oper) {dst:Option Tmp} {v:AV} (h:∀ d,dst=some d->d ∉ o.looksAt ops):jH C mu o.op (ρ.eB dst v) U=jH C mu o.op ρ U :=
 OF o.op fun x hx=>J2 fun d hd hxd=>h d hd (by
  subst hxd
  exact List.mem_append_left _ (List.mem_filterMap.2 ⟨.tmp d,by simpa using hx,rfl⟩))
theorem Et (ops:Array Oper) (o:Oper) {dst:Option Tmp} {v:AV} (h:∀ d,dst=some d->d ∉ o.looksAt ops):ig ops (ρ.eB dst v) o.guard=ig ops ρ o.guard:=by
 cases dst with
 | none=>rfl
 | some d =>
   have hd:=h d rfl
   unfold ig
   cases hg:o.guard with
   | none=>rfl
   | some jw =>
     obtain ⟨j,want⟩:=jw
     simp only
     cases hb:(ops[j]?).bind (·.dst) with
     | none=>rfl
     | some t =>
       have cV:t ≠ d:=fun e=>by
        subst e
        apply hd
        unfold Oper.looksAt
        rw [hg]
        simp only [hb,Option.toList_some,fN,kH,or_true]
       simp only [Env.eB,Env.put,if_neg cV]
theorem OR {d d':Option Tmp} {v v':AV} (h:∀ t,d=some t->d' ≠ some t):(ρ.eB d v).eB d' v'=(ρ.eB d' v').eB d v:=by
 cases d <;> cases d' <;> simp only [Env.eB]
 rename_i a b
 have cV:b ≠ a:=fun e=>h a rfl (by rw [e])
 simp only [Env.put,Env.mk.injEq]
 funext t
 by_cases h1:t=b
 . subst h1; rw [if_pos rfl,if_neg cV,if_pos rfl]
 . rw [if_neg h1]
   by_cases h2:t=a
   . rw [if_pos h2,if_pos h2]
   . rw [if_neg h2,if_neg h2,if_neg h1]
def nM (mu:List Nat) (o:Oper):Bool:=match o.dst with | some d=>mu.contains d | none=>false
def kT (C:cT) (mu:List Nat) (ops:Array Oper) (I:St->Prop) (i:Nat) (K:Env->St->Prop) (Kp:AV->St->Prop) (ρ:Env) (U:St):Prop :=
 match ops[i]? with
 | none=>K ρ U
 | some o=>ao (ig ops ρ o.guard) ((jH C (nM mu o) o.op ρ U).wp C U (fun v af=>I af/\K (ρ.eB o.dst v) af) Kp) (K (ρ.eB o.dst (.aG [])) U)
def Vg (o:Oper) (k:Nat):Bool:=o.after.toList.any fun e=>Region.binds .any e && Nat.beq e.on k
def rJ (ops:Array Oper) (i:Nat):Bool:=match ops[i]? with
 | some o=>(List.range ops.size).all fun k=>Nat.beq k i || (Vg o k || o.after.toList.any fun e=>Region.binds .any e && (match ops[e.on]? with | some m=>Vg m k | none=>false))
 | none=>false
def Dn (ops:Array Oper) (listed:Array Bool):Prop:=∀ m o,ops[m]?=some o->listed.getD m false=true->∀ e ∈ o.after,Region.binds .any e=true->listed.getD e.on false=true
theorem HS {o:Oper} {k:Nat} (h:Vg o k=true):∃ e ∈ o.after,Region.binds .any e=true/\e.on=k:=by
 unfold Vg at h
 rw [List.any_eq_true] at h
 obtain ⟨e,he,hb⟩:=h
 simp only [bX] at hb
 exact ⟨e,by simpa using he,hb.1,eQ hb.2⟩
theorem Gn {ops:Array Oper} {i:Nat} {listed:Array Bool} (hD:Dn ops listed) (hr:i ∈ Region.ready .any ops listed) (h:rJ ops i=true) (k:Nat) (hk:k < ops.size) (cV:k ≠ i):listed.getD k false=true:=by
 obtain ⟨_,o,ho,bA⟩:=mem_ready.1 hr
 unfold rJ at h
 rw [ho] at h
 simp only [ep,List.mem_range,jI] at h
 rcases h k hk with h | h | h
 . exact absurd (eQ h) cV
 . obtain ⟨e,he,hb,CB⟩:=HS h
   rw [<- CB]; exact bA e he hb
 . rw [List.any_eq_true] at h
   obtain ⟨e,he,hb⟩:=h
   rw [bX] at hb
   have h1:=bA e (by simpa using he) hb.1
   have h2:=hb.2
   split at h2
   . rename_i m hm
     obtain ⟨e',mh,eT,aeu⟩:=HS h2
     rw [<- aeu]; exact hD _ m hm h1 e' mh eT
   . cases h2
def FZ (o:Oper):List Nat:=o.after.toList.filterMap fun e=>if Region.binds .any e=true then some e.on else none
def Dd (ops:Array Oper):Nat->List Nat->List Nat
 | 0,l=>l
 | k+1,l=>Dd ops k (if l.any (Nat.beq k)=true then (match ops[k]? with | some o=>FZ o++l | none=>l) else l)
def JX (ops:Array Oper) (i:Nat):Bool:=match ops[i]? with
 | some o=>let l:=Dd ops ops.size (FZ o); (List.range ops.size).all fun k=>Nat.beq k i || l.any (Nat.beq k)
 | none=>false
def nR (ops:Array Oper) (i:Nat):Bool:=rJ ops i || JX ops i
theorem Ww {ops:Array Oper} {i:Nat} (h:rJ ops i=true):nR ops i=true:=by unfold nR; rw [h]; rfl
theorem Ei {o:Oper} {k:Nat} (h:k ∈ FZ o):∃ e ∈ o.after,Region.binds .any e=true/\e.on=k:=by
 unfold FZ at h
 rw [List.mem_filterMap] at h
 obtain ⟨e,he,h⟩:=h
 split at h
 . rename_i hb; exact ⟨e,by simpa using he,hb,by simpa using h⟩
 . cases h
theorem Fy {ops:Array Oper} {listed:Array Bool} (hD:Dn ops listed):∀ (k:Nat) (l:List Nat),(∀ x ∈ l,listed.getD x false=true)->∀ x ∈ Dd ops k l,listed.getD x false=true
 | 0,l,h,x,hx=>h x hx
 | k+1,l,h,x,hx=>by
   rw [Dd] at hx
   refine Fy hD k _ (fun y hy=>?_) x hx
   split at hy
   . rename_i hk
     rw [List.any_eq_true] at hk
     obtain ⟨z,hz,N2⟩:=hk
     obtain rfl:=eQ N2
     split at hy
     . rename_i o ho
       rw [fN] at hy
       rcases hy with hy | hy
       . obtain ⟨e,he,hb,rfl⟩:=Ei hy
         exact hD _ o ho (h _ hz) e he hb
       . exact h y hy
     . exact h y hy
   . exact h y hy
theorem CK {ops:Array Oper} {i:Nat} {listed:Array Bool} (hD:Dn ops listed) (hr:i ∈ Region.ready .any ops listed) (h:nR ops i=true) (k:Nat) (hk:k < ops.size) (cV:k ≠ i):listed.getD k false=true:=by
 unfold nR at h
 rw [jI] at h
 rcases h with h | h
 . exact Gn hD hr h k hk cV
 obtain ⟨_,o,ho,bA⟩:=mem_ready.1 hr
 unfold JX at h
 rw [ho] at h
 simp only [ep,List.mem_range,jI] at h
 rcases h k hk with h | h
 . exact absurd (eQ h) cV
 . rw [List.any_eq_true] at h
   obtain ⟨z,hz,N2⟩:=h
   obtain rfl:=eQ N2
   refine Fy hD ops.size _ (fun y hy=>?_) _ hz
   obtain ⟨e,he,hb,rfl⟩:=Ei hy
   exact bA e he hb
theorem Dn.set {ops:Array Oper} {listed:Array Bool} (hD:Dn ops listed) {i:Nat} (hr:i ∈ Region.ready .any ops listed):Dn ops (listed.setIfInBounds i true):=by
 intro m o ho hl e he hb
 obtain ⟨_,oi,AU,bA⟩:=mem_ready.1 hr
 by_cases hmi:i=m
 . subst hmi
   rw [AU] at ho; cases ho
   exact getD_set_true (bA e he hb)
 . rw [getD_set_ne false hmi] at hl
   exact getD_set_true (hD m o ho hl e he hb)
theorem Dn.none (ops:Array Oper) (n:Nat):Dn ops (Array.replicate n false):=by
 intro m o ho hl
 rw [Array.getD_eq_getD_getElem?,Array.getElem?_replicate] at hl
 split at hl <;> simp at hl
def Ix (ops:Array Oper) (I:St->Prop) (i:Nat) (U:St):Prop:=nR ops i=true\/I U
def mb (C:cT) (mu:List Nat) (ops:Array Oper) (I:St->Prop) (K:Env->St->Prop) (Kp:AV->St->Prop):Nat->Array Bool->Env->St->Prop
 | 0,listed,ρ,U=>Region.ready .any ops listed=[]/\K ρ U
 | n+1,listed,ρ,U=>(Region.ready .any ops listed=[]->K ρ U)/\∀ i ∈ Region.ready .any ops listed,kT C mu ops (Ix ops I i) i (mb C mu ops I K Kp n (listed.setIfInBounds i true)) Kp ρ U
theorem KY {mu:List Nat} {ops:Array Oper} {I:St->Prop} (cS:kQ nt ops=true) (g0:Gh):∀ (fuel t:Nat) (listed:Array Bool) (g:Gh) (U:St) (w:World) (ρ:Env) (a:Act) (ds:List Deferred),Gh.Le g0 g->bp g U w->ix C g->gM g ρ a.tmps->a.tmps.size=nt->a.defers=ds ->
 mb C mu ops I (KQ Q) (yb Q) fuel listed ρ U->wpOpsIn (FW fr) 0 C.P ops (qp g0 nt nm ds Q) (Region.linearise.go .any ops fuel t listed []) a w:=by
 intro fuel
 induction fuel with
 | zero =>
   intro t listed g U w ρ a ds h0 hs hG hr hn hd h
   simp only [Region.linearise.go,List.reverse_nil,wpOpsIn]
   exact ⟨hn,g,U,ρ,[],by simpa using hd,lH _ _ _,h0,hs,hr,h.2⟩
 | succ fuel ih =>
   intro t listed g U w ρ a ds h0 hs hG hr hn hd h
   obtain ⟨h1,h2⟩:=h
   simp only [Region.linearise.go]
   change wpOpsIn (FW fr) 0 C.P ops (qp g0 nt nm ds Q) (match (Region.ready .any ops listed)[t % (Region.ready .any ops listed).length]? with
    | some i=>Region.linearise.go .any ops fuel (t / (Region.ready .any ops listed).length) (listed.setIfInBounds i true) [i]
    | none=>[].reverse) a w
   cases hi:(Region.ready .any ops listed)[t % (Region.ready .any ops listed).length]? with
   | none =>
     have SS:Region.ready .any ops listed=[]:=by
      cases hr:Region.ready .any ops listed with
      | nil=>rfl
      | cons x xs =>
        rw [hr] at hi
        have aM:t % (x::xs).length < (x::xs).length:=Nat.mod_lt _ (by simp)
        simp at hi
        simp at aM
        omega
     simp only [List.reverse_nil,wpOpsIn]
     exact ⟨hn,g,U,ρ,[],by simpa using hd,lH _ _ _,h0,hs,hr,h1 SS⟩
   | some i =>
     dsimp only
     rw [linearise_go_acc,List.reverse_singleton,List.singleton_append]
     simp only [wpOpsIn]
     have gD:=h2 i (fl hi)
     unfold kT at gD
     cases ho:ops[i]? with
     | none =>
       rw [ho] at gD
       exact ih _ _ g U w ρ a ds h0 hs hG hr hn hd gD
     | some o =>
       rw [ho] at gD
       dsimp only at gD ⊢
       have mN:o ∈ ops.toList:=fl (l:=ops.toList) (i:=i) (a:=o) (by rw [lK]; exact ho)
       have Hk:BE nt o=true:=by
        unfold kQ at cS
        rw [ep] at cS
        exact cS o mN
       have SL:∀ d,o.dst=some d->d < a.tmps.size:=fun d sC=>by
        simp only [BE,sC,bX,da] at Hk
        rw [hn]; exact Hk.1
       have go:∀ g' af w' x v,Gh.Le g g'->bp g' af w'->aE g' x v->mb C mu ops I (KQ Q) (yb Q) fuel (listed.setIfInBounds i true) (ρ.eB o.dst x) af->wpOpsIn (FW fr) 0 C.P ops (qp g0 nt nm ds Q) (Region.linearise.go .any ops fuel (t / (Region.ready .any ops listed).length) (listed.setIfInBounds i true) []) (a.put o.dst v) w':=fun g' af w' x v hle eE hx hk =>
        ih _ _ g' af w' (ρ.eB o.dst x) (a.put o.dst v) ds (h0.trans hle) eE (hG.mono hle) ((hr.mono hle).eB SL hx) (by rw [(om a o.dst v).2]; exact hn) (by rw [(om a o.dst v).1]; exact hd) hk
       cases NH:ig ops ρ o.guard <;> rw [NH] at gD <;> simp only [ao] at gD
       rename_i b
       have hw:=AM hr NH
       cases b
       . rw [if_neg (by rw [hw]; simp)]
         exact ⟨fun _ _=>trivial,go g U w (.aG []) undef (Gh.Le.refl g) hs uJ (gD.2 rfl)⟩
       . rw [if_pos hw]
         refine pI Hk hs hG hr hn (gD.1 rfl) (fun g' af w' x v hle eE hx hk=>go g' af w' x v hle eE hx hk.2) ?_ (ds:=ds)
         intro g' af w' x v hle eE hx hk
         exact ⟨hn,g',af,ρ,[],by simpa using hd,lH _ _ _,h0.trans hle,eE,hr.mono hle,x,v,rfl,hx,hk ρ⟩
theorem bI.zH {id:Nat} {ops:Array Oper} (mu:List Nat) (I:St->Prop) (hm:C.P.follows .mixedOrders=true) (cS:kQ nt ops=true) (h:mb C mu ops I (KQ Q) (yb Q) ops.size (Array.replicate ops.size false) ρ U):bI C nt ro (.region id ops true) Q ρ U:=by
 intro g w a fr h1 h2 h3 h4 tB
 refine wpIn_region_draw fun t=>?_
 simp only [Region.schedule,hm,Bool.true_or,if_true,Region.linearise]
 have hs:=h1.grow (ku w)
 exact KY cS g ops.size t _ g U _ ρ a a.defers (Gh.Le.refl g) hs h2 h3 h4 rfl h
def ay.yv (C:cT):ay->AV->Prop
 | .val u,v=>u=v
 | @ay.cond p _ r,v=>p/\r.yv C v
 | .enter f args,v=>Pure C f args v
 | _,_=>False
theorem ay.ML {K:AV->St->Prop} {Kp:AV->St->Prop}:∀ (r:ay) {v:AV},r.yv C v->K v U->r.wp C U K Kp
 | .val _,_,h,hk=>by simp only [ay.yv] at h; subst h; exact hk
 | @ay.cond _ _ r,_,h,hk=>⟨h.1,ay.ML r h.2 hk⟩
 | .enter _ _,_,h,hk=>h U _ hk
 | .ir _ _ _,_,h,_=>h.elim
 | .new _ _ _,_,h,_=>h.elim
 | .lh _ _,_,h,_=>h.elim
 | .yield _ _,_,h,_=>h.elim
 | .panic _,_,h,_=>h.elim
 | .bad,_,h,_=>h.elim
def cL (B:List Nat) (aw U:St):Prop:=∀ b ∈ B,U.live b=aw.live b
def Still (C:cT) (mu:List Nat) (ops:Array Oper) (B:List Nat) (aw:St) (o:Oper) (ρ:Env) (v:AV):Prop :=
 (ig ops ρ o.guard=.bool true/\quiet o.op=true/\(oJ o.op=true->∀ x ∈ o.op.operands.toList,∀ b ∈ dK (ρ.ev C x),b ∈ B)/\(jH C (nM mu o) o.op ρ aw).yv C v)\/(ig ops ρ o.guard=.bool false/\v=.aG [])
theorem Still.put {mu:List Nat} {ops:Array Oper} {B:List Nat} {aw:St} {o:Oper} {v:AV} (h:Still C mu ops B aw o ρ v) {dst:Option Tmp} {u:AV} (hd:∀ d,dst=some d->d ∉ o.looksAt ops):Still C mu ops B aw o (ρ.eB dst u) v:=by
 unfold Still at h ⊢
 rw [Et ops o hd,KF ops o hd]
 rcases h with ⟨h1,h2,h3,h4⟩ | h
 . refine .inl ⟨h1,h2,fun Hp x hx b hb=>h3 Hp x hx b ?_,h4⟩
   rw [J2 fun d sC hxd=>hd d sC (by
    subst hxd
    exact List.mem_append_left _ (List.mem_filterMap.2 ⟨.tmp d,hx,rfl⟩))] at hb
   exact hb
 . exact .inr h
theorem Still.step {mu:List Nat} {ops:Array Oper} {B:List Nat} {aw:St} {o:Oper} {v:AV} {i:Nat} {K:Env->St->Prop} {Kp:AV->St->Prop} (hi:ops[i]?=some o) (h:Still C mu ops B aw o ρ v) (hI:cL B aw U) {I':St->Prop} (Cs:I' U) (hk:K (ρ.eB o.dst v) U) :
 kT C mu ops I' i K Kp ρ U:=by
 unfold kT
 rw [hi]
 dsimp only
 rcases h with ⟨h1,h2,h3,h4⟩ | ⟨h1,rfl⟩
 . rw [h1]
   refine ⟨fun _=>?_,fun h=>by cases h⟩
   have e:=WQ (C:=C) (ρ:=ρ) (mu:=nM mu o) (af:=U) (U:=aw) o.op h2 (fun Hp x hx b hb=>hI b (h3 Hp x (by simpa using hx) b hb))
   rw [e]
   exact ay.ML _ h4 ⟨Cs,hk⟩
 . rw [h1]
   exact ⟨fun h=>(by cases h),fun _=>hk⟩
theorem Db {mu:List Nat} {ops:Array Oper} {I:St->Prop} {i:Nat} {K K':Env->St->Prop} {Kp:AV->St->Prop} (hI:I U) (hk:∀ ρ U,I U->K ρ U->K' ρ U) (h:kT C mu ops I i K Kp ρ U):kT C mu ops I i K' Kp ρ U:=by
 unfold kT at h ⊢
 split
 . rename_i ho; rw [ho] at h; exact hk _ _ hI h
 . rename_i o ho
   rw [ho] at h
   dsimp only at h
   cases hg:ig ops ρ o.guard <;> rw [hg] at h <;> simp only [ao] at h ⊢
   exact ⟨fun e=>ay.wp_mono (fun v U hv=>⟨hv.1,hk _ _ hv.1 hv.2⟩) _ (h.1 e),fun e=>hk _ _ hI (h.2 e)⟩
theorem B7 {mu:List Nat} {ops:Array Oper} {B:List Nat} {aw:St} {K:Env->St->Prop} {Kp:AV->St->Prop} {i:Nat} {oi:Oper} {v:AV} (hi:ops[i]?=some oi) :
 ∀ (fuel:Nat) (listed:Array Bool) (ρ:Env) (U:St),
  (∀ j oj,ops[j]?=some oj->j ≠ i->listed.getD j true=false->(∀ e ∈ oj.after,Region.binds .any e=true->e.on ≠ i)->oi.apart ops oj=true) ->
  i ∈ Region.ready .any ops listed->Dn ops listed->Still C mu ops B aw oi ρ v->cL B aw U ->
  mb C mu ops (cL B aw) K Kp fuel (listed.setIfInBounds i true) (ρ.eB oi.dst v) U->mb C mu ops (cL B aw) K Kp (fuel+1) listed ρ U:=by
 intro fuel
 induction fuel with
 | zero =>
   intro listed ρ U _ hr hD hy hI H
   refine ⟨fun h=>(by rw [h] at hr; cases hr),fun j hj=>?_⟩
   by_cases sF:j=i
   . subst sF; exact hy.step hi hI (.inr hI) H
   . have:=ready_mono hj sF
     rw [H.1] at this
     cases this
 | succ fuel ih =>
   intro listed ρ U F4 hr hD hy hI H
   refine ⟨fun h=>(by rw [h] at hr; cases hr),fun j hj=>?_⟩
   by_cases sF:j=i
   . subst sF; exact hy.step hi hI (.inr hI) H
   . have h1:=H.2 j (ready_mono hj sF)
     obtain ⟨Z0,oj,oe,bA⟩:=mem_ready.1 hj
     have Hi:∀ e ∈ oj.after,Region.binds .any e=true->e.on ≠ i:=fun e he hb heq=>by
      have h1:=bA e he hb
      have h0:=(mem_ready.1 hr).1
      rw [heq] at h1
      rcases gr i listed.size with h' | h'
      . simp [h'] at h0 h1; rw [h0] at h1; cases h1
      . simp [xD h'] at h1
     obtain ⟨a1,a2,a3⟩:=Oper.apart_spec (F4 j oj oe sF Z0 Hi)
     have ZW:∀ k ok,ops[k]?=some ok->k ≠ i->(listed.setIfInBounds j true).getD k true=false ->
      (∀ e ∈ ok.after,Region.binds .any e=true->e.on ≠ i)->oi.apart ops ok=true:=fun k ok hk Kb hun js=>by
      refine F4 k ok hk Kb ?_ js
      by_cases Cx:j=k
      . subst Cx; exact Z0
      . rw [getD_set_ne true Cx] at hun; exact hun
     have NP:¬ nR ops j=true:=fun acm=>by
      have h1:=CK hD hj acm i (kG.1 hi).1 (Ne.symm sF)
      have h0:=(mem_ready.1 hr).1
      rcases gr i listed.size with h' | h'
      . simp [h'] at h0 h1; rw [h0] at h1; cases h1
      . simp [xD h'] at h1
     have next:∀ (u:AV) (af:St),cL B aw af->mb C mu ops (cL B aw) K Kp fuel ((listed.setIfInBounds i true).setIfInBounds j true) ((ρ.eB oi.dst v).eB oj.dst u) af ->
      mb C mu ops (cL B aw) K Kp (fuel+1) (listed.setIfInBounds j true) (ρ.eB oj.dst u) af:=fun u af Cs hA=>by
      refine ih (listed.setIfInBounds j true) (ρ.eB oj.dst u) af ZW (ready_mono hr (Ne.symm sF)) (hD.set hj) (hy.put a3) Cs ?_
      rw [Array.setIfInBounds_comm _ _ sF,<- OR (d:=oi.dst) (d':=oj.dst) (fun t ht=>a2 t ht)]
      exact hA
     unfold kT at h1 ⊢
     rw [oe] at h1 ⊢
     dsimp only at h1 ⊢
     rw [Et ops oj a1,KF ops oj a1] at h1
     cases hg:ig ops ρ oj.guard <;> rw [hg] at h1 <;> simp only [ao] at h1 ⊢
     exact ⟨fun e=>ay.wp_mono (fun u af hu=>⟨hu.1,next u af (hu.1.resolve_left NP) hu.2⟩) _ (h1.1 e),fun e=>next _ U hI (h1.2 e)⟩
def iD (ops:Array Oper):List (Bool × Nat)->Array Bool->Bool
 | [],listed=>(Region.ready .any ops listed).isEmpty
 | (true,i)::r,listed=>(Region.ready .any ops listed).contains i && Region.free .any ops listed i && iD ops r (listed.setIfInBounds i true)
 | (false,i)::r,listed=>(Region.ready .any ops listed == [i]) && iD ops r (listed.setIfInBounds i true)
def lu (C:cT) (mu:List Nat) (ops:Array Oper) (B:List Nat) (aw:St) (K:Env->St->Prop) (Kp:AV->St->Prop):List (Bool × Nat)->Env->St->Prop
 | [],ρ,U=>K ρ U
 | (true,i)::r,ρ,U=>∃ o v,ops[i]?=some o/\Still C mu ops B aw o ρ v/\lu C mu ops B aw K Kp r (ρ.eB o.dst v) U
 | (false,i)::r,ρ,U=>kT C mu ops (Ix ops (cL B aw) i) i (lu C mu ops B aw K Kp r) Kp ρ U
theorem S8 {ops:Array Oper} {i:Nat} {listed:Array Bool} (hD:Dn ops listed) (hi:i ∈ Region.ready .any ops listed) (ha:nR ops i=true):∀ {r:List (Bool × Nat)},iD ops r (listed.setIfInBounds i true)=true->r=[]
 | [],_=>rfl
 | (b,k)::r,h=>by
   exfalso
   have hk:k ∈ Region.ready .any ops (listed.setIfInBounds i true):=by
    cases b with
    | true=>simp only [iD,bX] at h; simpa using h.1.1
    | false=>simp only [iD,bX,beq_iff_eq] at h; rw [h.1]; simp
   obtain ⟨h0,ok,cS,_⟩:=mem_ready.1 hk
   have sE:=(mem_ready.1 hi).1
   have cV:k ≠ i:=fun e=>by
    subst e
    have aM:k < listed.size:=by
     rcases gr k listed.size with h | h
     . exact h
     . simp [xD h] at sE
    simp [aM] at h0
   have h1:=CK hD hi ha k (kG.1 cS).1 cV
   rw [getD_set_ne true (Ne.symm cV)] at h0
   rcases gr k listed.size with h' | h'
   . simp [h'] at h0 h1; rw [h0] at h1; cases h1
   . simp [xD h'] at h1
theorem rW {mu:List Nat} {ops:Array Oper} {B:List Nat} {aw:St} {K:Env->St->Prop} {Kp:AV->St->Prop}:∀ (dm:List (Bool × Nat)) (listed:Array Bool) (ρ:Env) (U:St),iD ops dm listed=true->Dn ops listed->(dm=[]\/cL B aw U)->lu C mu ops B aw K Kp dm ρ U ->
 mb C mu ops (cL B aw) K Kp dm.length listed ρ U
 | [],listed,ρ,U,hp,hD,hI,h=>⟨by simpa [iD] using hp,h⟩
 | (true,i)::r,listed,ρ,U,hp,hD,hI,h=>by
   have hI:=hI.resolve_left (by simp)
   simp only [iD,bX] at hp
   obtain ⟨o,v,ho,gD,hr⟩:=h
   exact B7 ho r.length listed ρ U (Region.free_spec ho hp.1.2) (by simpa using hp.1.1) hD gD hI (rW r _ _ U hp.2 (hD.set (by simpa using hp.1.1)) (.inr hI) hr)
 | (false,i)::r,listed,ρ,U,hp,hD,hI,h=>by
   have hS:=hI.resolve_left (by simp)
   simp only [iD,bX,beq_iff_eq] at hp
   refine ⟨fun h0=>(by rw [hp.1] at h0; cases h0),fun j hj=>?_⟩
   have EA:=hj
   rw [hp.1,kH] at hj
   subst hj
   exact Db (.inr hS) (fun dY af Cs hr=>rW r _ dY af hp.2 (hD.set EA) (Cs.elim (fun ha=>.inl (S8 hD EA ha hp.2)) .inr) hr) h
theorem bI.sW {id:Nat} {ops:Array Oper} (mu:List Nat) (B:List Nat) (dm:List (Bool × Nat)) (hm:C.P.follows .mixedOrders=true) (cS:kQ nt ops=true) (hp:(iD ops dm (Array.replicate ops.size false) && (dm.length == ops.size))=true)
 (h:lu C mu ops B U (KQ Q) (yb Q) dm ρ U):bI C nt ro (.region id ops true) Q ρ U:=by
 simp only [bX,beq_iff_eq] at hp
 refine bI.zH mu (cL B U) hm cS ?_
 have:=rW dm _ ρ U hp.1 (Dn.none _ _) (.inr fun _ _=>rfl) h
 rw [hp.2] at this
 exact this
theorem ay.B5 {K:AV->St->Prop} {Kp ya:AV->St->Prop} (hp:∀ v U,Kp v U->ya v U):∀ (r:ay) {U:St},r.wp C U K Kp->r.wp C U K ya
 | .val _,_,h=>h
 | .ir _ _ _,_,h=>h
 | .new _ _ _,_,h=>h
 | .lh _ _,_,h=>h
 | .enter _ _,_,h=>ag.mono h fun r U hr=>by cases r <;> first | exact hr | exact hp _ _ hr
 | .yield _ _,_,h=>ma.mono h fun r U hr=>by cases r <;> first | exact hr | exact hp _ _ hr
 | .panic _,_,h=>hp _ _ h
 | @ay.cond _ _ r,_,h=>⟨h.1,ay.B5 hp r h.2⟩
 | .bad,_,h=>h
theorem jB {mu:List Nat} {ops:Array Oper} {B:List Nat} {aw:St} {K K':Env->St->Prop} {Kp ya:AV->St->Prop} (hk:∀ ρ U,K ρ U->K' ρ U) (hp:∀ v U,Kp v U->ya v U):∀ (l:List (Bool × Nat)) {ρ:Env} {U:St},lu C mu ops B aw K Kp l ρ U->lu C mu ops B aw K' ya l ρ U
 | [],_,_,h=>hk _ _ h
 | (true,i)::r,ρ,U,h=>by
   obtain ⟨o,v,h1,h2,h3⟩:=h
   exact ⟨o,v,h1,h2,jB hk hp r h3⟩
 | (false,i)::r,ρ,U,h=>by
   simp only [lu,kT] at h ⊢
   split
   . rename_i ho; rw [ho] at h; exact jB hk hp r h
   . rename_i o ho
     rw [ho] at h
     dsimp only at h
     cases hg:ig ops ρ o.guard <;> rw [hg] at h <;> simp only [ao] at h ⊢
     exact ⟨fun e=>ay.wp_mono (fun v U hv=>⟨hv.1,jB hk hp r hv.2⟩) _ (ay.B5 hp _ (h.1 e)),fun e=>jB hk hp r (h.2 e)⟩
end
end Go.Rip
namespace Go.Rip
open Go.RowKit
def qk (kk:IntKind) (a:Int) (v:AV) (kv:List AV × List AV):List AV × List AV:=gN (.int kk a) v kv.1 kv.2
theorem uw (kk:IntKind) (a b:Int):jy (.int kk a) (.int kk b)=decide (a < b):=by simp [jy]
def yw (kk:IntKind) (kv:List AV × List AV):Prop:=kv.1.length=kv.2.length/\∀ y ∈ kv.1,∃ n,y=.int kk n
theorem Hx (k v:AV):∀ ks vs:List AV,ks.length=vs.length->(gN k v ks vs).1.length=(gN k v ks vs).2.length
 | [],[],_=>rfl
 | y::ys,w::ws,h=>by
   simp only [gN]
   split
   . simpa using h
   . simpa using Hx k v ys ws (by simpa using h)
 | [],_::_,h=>by simp at h
 | _::_,[],h=>by simp at h
theorem Kq {kk:IntKind} {a:Int} {v:AV} {kv:List AV × List AV} (h:yw kk kv):yw kk (qk kk a v kv) :=
 ⟨Hx _ _ _ _ h.1,fun y hy=>by
   rcases wV _ _ y hy with rfl | hy
   . exact ⟨a,rfl⟩
   . exact h.2 y hy⟩
theorem EP {kk:IntKind} {a b:Int} {v w:AV} (J7:a ≠ b):∀ ks vs:List AV,ks.length=vs.length->(∀ y ∈ ks,∃ n,y=.int kk n) ->
 gN (.int kk a) v (gN (.int kk b) w ks vs).1 (gN (.int kk b) w ks vs).2=gN (.int kk b) w (gN (.int kk a) v ks vs).1 (gN (.int kk a) v ks vs).2
 | [],[],_,_=>by
   simp only [gN,uw]
   by_cases h:a < b
   . have:¬ b < a:=by omega
     simp [h,this]
   . have:b < a:=by omega
     simp [h,this]
 | y::ys,x::xs,h,hy=>by
   obtain ⟨n,rfl⟩:=hy _ (List.mem_cons_self ..)
   have ih:=EP (v:=v) (w:=w) J7 ys xs (by simpa using h) (fun y hm=>hy y (by simp [hm]))
   simp only [gN,uw]
   by_cases h1:a < n <;> by_cases h2:b < n <;> by_cases h3:a < b
   all_goals (have h4:b < a\/¬ b < a:=by omega)
   all_goals (rcases h4 with h4 | h4 <;> simp only [h1,h2,h3,h4,bZ,cE,if_true,if_false,bC,gN,uw] <;> first | omega | (simp only [ih]; done) | rfl | (simp [gN,uw,h1,h2,h3,h4,ih]; done))
 | [],_::_,h,_=>by simp at h
 | _::_,[],h,_=>by simp at h
theorem N5 {kk:IntKind} {a b:Int} {v w:AV} (J7:a ≠ b) {kv:List AV × List AV} (h:yw kk kv):qk kk a v (qk kk b w kv)=qk kk b w (qk kk a v kv):=EP J7 kv.1 kv.2 h.1 h.2
structure uQ where
 i:Nat
 key:Int
 val:AV
def pe (kk:IntKind) (l:List uQ) (kv:List AV × List AV):List AV × List AV:=l.foldl (fun kv x=>qk kk x.key x.val kv) kv
theorem zf {kk:IntKind}:∀ (qP:List uQ) (x:uQ) (qQ:List uQ) {kv:List AV × List AV},yw kk kv->(∀ y ∈ qP,y.key ≠ x.key)->pe kk (qP++x::qQ) kv=pe kk (qP++qQ) (qk kk x.key x.val kv)
 | [],x,qQ,_,_,_=>rfl
 | y::qP,x,qQ,kv,h,hk=>by
   show pe kk (qP++x::qQ) (qk kk y.key y.val kv)=pe kk (qP++qQ) (qk kk y.key y.val (qk kk x.key x.val kv))
   rw [zf qP x qQ (Kq h) (fun z hz=>hk z (by simp [hz])),N5 (hk y (by simp)).symm h]
theorem GQ {kk:IntKind} {a:Int}:∀ (ks:List AV) (i:Nat),(∀ y ∈ ks,∃ n,y=.int kk n/\n ≠ a)->lX .i (.int kk a) ks i=some none
 | [],_,_=>rfl
 | y::ys,i,h=>by
   obtain ⟨n,rfl,hn⟩:=h _ (List.mem_cons_self ..)
   have cV:(a == n)=false:=by simpa using Ne.symm hn
   simp only [lX,iA,if_true,cV,bC,if_false]
   exact GQ ys (i+1) fun y hy=>h y (by simp [hy])
theorem set_set (U:St) (b:Nat) (x y:Live):(U.set b x).set b y=U.set b y:=by
 simp only [St.set,St.mk.injEq,and_true]; funext q; split <;> rfl
theorem aao (U:St) (b:Nat) (ks vs:List AV):(U.set b (.mp ks vs)).mp b=some (ks,vs):=by simp [St.mp,St.set]
section
variable {C:cT} {mu:List Nat} {ops:Array Oper} {B:List Nat} {aw:St} {K:Env->St->Prop} {Kp:AV->St->Prop}
def abA (C:cT) (ops:Array Oper) (ρ:Env) (t:TypeId) (m:Nat) (kk:IntKind) (listed:Array Bool) (x:uQ):Prop:=∃ o v,ops[x.i]?=some o/\o.op=.insert t (.tmp m) (.const (.int kk x.key)) v/\o.dst=none/\o.guard=none/\ρ.ev C v=x.val /\
 ∀ e ∈ o.after,Region.binds .any e=true->listed.getD e.on false=true
def Xp (ops:Array Oper) (listed:Array Bool) (l:List uQ):Prop:=∀ j o,ops[j]?=some o->listed.getD j true=false->(∃ x ∈ l,x.i=j)\/∀ x ∈ l,∃ e ∈ o.after,Region.binds .any e=true/\e.on=x.i
theorem Ws {t:TypeId} {m:Nat} {kk:IntKind} {e:TypeId} (ht:qn C.P t=some (.i,e)) {id:Nat} {ρ:Env} (hm:ρ.get m=.mp id) (hB:id ∉ B) (mm:Nat):∀ (n:Nat) (l:List uQ) (listed:Array Bool) (U:St) (kv:List AV × List AV),l.length=n ->
 (∀ x ∈ l,listed.getD x.i true=false)->Xp ops listed l->l.Pairwise (fun x y=>x.i ≠ y.i/\x.key ≠ y.key)->(∀ x ∈ l,abA C ops ρ t m kk listed x)->cL B aw U->yw kk kv ->
 (∀ x ∈ l,.int kk x.key ∉ kv.1)->(∀ mq:Array Bool,mq.size=listed.size->(∀ j,mq.getD j true=false ↔ listed.getD j true=false/\¬ ∃ x ∈ l,x.i=j)->mb C mu ops (cL B aw) K Kp mm mq ρ (U.set id (.mp (pe kk l kv).1 (pe kk l kv).2))) ->
 mb C mu ops (cL B aw) K Kp (n+mm) listed ρ (U.set id (.mp kv.1 kv.2)):=by
 intro n
 induction n with
 | zero =>
   intro l listed U kv hl Cz vL hp cS hI UM js hK
   obtain rfl:l=[]:=List.eq_nil_of_length_eq_zero hl
   rw [dI]
   exact hK listed rfl fun j=>by simp
 | succ n ih =>
   intro l listed U kv hl Cz vL hp cS hI UM js hK
   have Ho:∀ x ∈ l,x.i ∈ Region.ready .any ops listed:=fun x hx=>by
    obtain ⟨o,v,h1,_,_,_,_,h6⟩:=cS x hx
    exact mem_ready.2 ⟨Cz x hx,o,h1,h6⟩
   rw [show n+1+mm=(n+mm)+1 by omega]
   refine ⟨fun h=>?_,fun j hj=>?_⟩
   . obtain ⟨x,l',rfl⟩:∃ x l',l=x::l':=by cases l with | nil=>simp at hl | cons x l'=>exact ⟨x,l',rfl⟩
     have:=Ho x (by simp)
     rw [h] at this; cases this
   . obtain ⟨x,hx,rfl⟩:∃ x ∈ l,x.i=j:=by
      obtain ⟨h0,oj,oe,bA⟩:=mem_ready.1 hj
      rcases vL j oj oe h0 with h | h
      . exact h
      . exfalso
        obtain ⟨x,l',rfl⟩:∃ x l',l=x::l':=by cases l with | nil=>simp at hl | cons x l'=>exact ⟨x,l',rfl⟩
        obtain ⟨ed,he,hb,CB⟩:=h x (by simp)
        have k1:=bA ed he hb
        rw [CB] at k1
        have k2:=Cz x (by simp)
        rcases gr x.i listed.size with h' | h'
        . simp [h'] at k1 k2; rw [k2] at k1; cases k1
        . simp [xD h'] at k1
     obtain ⟨o,v,h1,h2,h3,h4,h5,h6⟩:=cS x hx
     obtain ⟨qP,qQ,rfl⟩:=List.append_of_mem hx
     have hpa:=hp
     rw [List.pairwise_append] at hp
     obtain ⟨p1,p2,p3⟩:=hp
     rw [List.pairwise_cons] at p2
     have Ls:lX .i (.int kk x.key) kv.1 0=some none:=GQ _ _ fun y hy=>by
      obtain ⟨n,rfl⟩:=UM.2 y hy
      exact ⟨n,rfl,fun e=>js x hx (by rw [<- e]; exact hy)⟩
     unfold kT
     rw [h1]
     dsimp only
     rw [h4,h2,h3]
     refine ⟨fun _=>?_,fun h=>by cases h⟩
     have hop:jH C (nM mu o) (.insert t (.tmp m) (.const (.int kk x.key)) v) ρ (U.set id (.mp kv.1 kv.2))=.ir (.aG []) id (.mp (qk kk x.key x.val kv).1 (qk kk x.key x.val kv).2):=by
      show qo C.P t (ρ.ev C (.tmp m)) (ρ.ev C (.const (.int kk x.key))) (ρ.ev C v) _=_
      rw [h5,show ρ.ev C (.tmp m)=.mp id from hm,show ρ.ev C (.const (.int kk x.key))=.int kk x.key from rfl]
      simp only [qo,ht,aao,Ls,uv,qk]
     rw [hop]
     refine ⟨.inr fun b hb=>?_,?_⟩
     . have cV:b ≠ id:=fun e=>hB (e ▸ hb)
       rw [set_set]
       simp only [St.set,if_neg cV]
       exact hI b hb
     . show mb C mu ops (cL B aw) K Kp (n+mm) (listed.setIfInBounds x.i true) ρ _
       rw [set_set]
       have aM:x.i < listed.size:=by
        have h0:=Cz x hx
        rcases gr x.i listed.size with h | h
        . exact h
        . simp [xD h] at h0
       have U1:(listed.setIfInBounds x.i true).getD x.i true=true:=by simp [aM]
       have pG:∀ y ∈ qP++qQ,y ∈ qP++x::qQ:=fun y hy=>by
        simp only [fN,cF] at hy ⊢
        rcases hy with hy | hy
        . exact .inl hy
        . exact .inr (.inr hy)
       have cV:∀ y ∈ qP++qQ,x.i ≠ y.i:=fun y hy=>by
        rcases fN.1 hy with hy | hy
        . exact (p3 y hy x (by simp)).1.symm
        . exact (p2.1 y hy).1
       refine ih (qP++qQ) (listed.setIfInBounds x.i true) U (qk kk x.key x.val kv) ?_ ?_ ?_ ?_ ?_ hI (Kq UM) ?_ ?_
       . simp at hl ⊢; omega
       . intro y hy
         rw [getD_set_ne true (cV y hy)]
         exact Cz y (pG y hy)
       . intro j oj oe h0
         have hjx:x.i ≠ j:=fun e=>by subst e; rw [U1] at h0; cases h0
         rw [getD_set_ne true hjx] at h0
         rcases vL j oj oe h0 with ⟨y,hy,rfl⟩ | h
         . left
           refine ⟨y,?_,rfl⟩
           simp only [fN,cF] at hy ⊢
           rcases hy with hy | rfl | hy
           . exact .inl hy
           . exact absurd rfl hjx
           . exact .inr hy
         . right
           exact fun y hy=>h y (pG y hy)
       . rw [List.pairwise_append]
         exact ⟨p1,p2.2,fun y hy z hz=>p3 y hy z (by simp [hz])⟩
       . intro y hy
         obtain ⟨o',v',q1,q2,q3,q4,q5,q6⟩:=cS y (by simp only [fN,cF] at hy ⊢; rcases hy with hy | hy; exact .inl hy; exact .inr (.inr hy))
         exact ⟨o',v',q1,q2,q3,q4,q5,fun ed he hb=>getD_set_true (q6 ed he hb)⟩
       . intro y hy mN
         rcases wV _ _ _ mN with e | e
         . simp only [AV.int.injEq,true_and] at e
           rcases fN.1 hy with hy | hy
           . exact (p3 y hy x (by simp)).2 e
           . exact (p2.1 y hy).2 e.symm
         . exact js y (by simp only [fN,cF] at hy ⊢; rcases hy with hy | hy; exact .inl hy; exact .inr (.inr hy)) e
       . rw [<- zf qP x qQ UM (fun y hy=>(p3 y hy x (by simp)).2)]
         intro mq eE ED
         refine hK mq (by rw [eE]; simp) fun j=>?_
         rw [ED j]
         by_cases e:x.i=j
         . subst e
           rw [U1]
           constructor
           . rintro ⟨h,_⟩; cases h
           . rintro ⟨_,h⟩; exact absurd ⟨x,by simp,rfl⟩ h
         . rw [getD_set_ne true e]
           refine and_congr_right fun _=>not_congr ?_
           constructor
           . rintro ⟨y,hy,rfl⟩; exact ⟨y,pG y hy,rfl⟩
           . rintro ⟨y,hy,rfl⟩
             refine ⟨y,?_,rfl⟩
             simp only [fN,cF] at hy ⊢
             rcases hy with hy | rfl | hy
             . exact .inl hy
             . exact absurd rfl e
             . exact .inr hy
def oh (ops:Array Oper):List (Bool × Nat)->Array Bool->Option (Array Bool)
 | [],listed=>some listed
 | (true,i)::r,listed=>cond ((Region.ready .any ops listed).contains i && Region.free .any ops listed i) (oh ops r (listed.setIfInBounds i true)) none
 | (false,i)::r,listed=>cond (Region.ready .any ops listed == [i] && !nR ops i) (oh ops r (listed.setIfInBounds i true)) none
theorem xr {m:Nat} {p9:Array Bool} {K0:Env->St->Prop} (tz:∀ ρ U,Dn ops p9->cL B aw U->K0 ρ U->mb C mu ops (cL B aw) K Kp m p9 ρ U):∀ (dm:List (Bool × Nat)) (listed:Array Bool) (ρ:Env) (U:St),oh ops dm listed=some p9->Dn ops listed->cL B aw U->lu C mu ops B aw K0 Kp dm ρ U ->
 mb C mu ops (cL B aw) K Kp (dm.length+m) listed ρ U
 | [],listed,ρ,U,hp,hD,hI,h=>by
   simp only [oh,iW] at hp
   subst hp
   simpa using tz ρ U hD hI h
 | (true,i)::r,listed,ρ,U,hp,hD,hI,h=>by
   simp only [oh] at hp
   cases hc:((Region.ready .any ops listed).contains i && Region.free .any ops listed i) with
   | false=>rw [hc] at hp; cases hp
   | true =>
     rw [hc] at hp
     simp only [bX] at hc
     obtain ⟨o,v,ho,gD,hr⟩:=h
     have:=B7 ho (r.length+m) listed ρ U (Region.free_spec ho hc.2) (by simpa using hc.1) hD gD hI (xr tz r _ _ U hp (hD.set (by simpa using hc.1)) hI hr)
     rw [show ((true,i)::r).length+m=r.length+m+1 by simp; omega]
     exact this
 | (false,i)::r,listed,ρ,U,hp,hD,hI,h=>by
   simp only [oh] at hp
   cases hc:(Region.ready .any ops listed == [i] && !nR ops i) with
   | false=>rw [hc] at hp; cases hp
   | true =>
     rw [hc] at hp
     simp only [bX,beq_iff_eq,Bool.not_eq_true'] at hc
     obtain ⟨hc,NP⟩:=hc
     rw [show ((false,i)::r).length+m=r.length+m+1 by simp; omega]
     refine ⟨fun h0=>(by rw [hc] at h0; cases h0),fun j hj=>?_⟩
     have EA:=hj
     rw [hc,kH] at hj
     subst hj
     exact Db (.inr hI) (fun dY af Cs hr=>xr tz r _ dY af hp (hD.set EA) (Cs.resolve_left (by rw [NP]; simp)) hr) h
structure nI where
 t:TypeId
 m:Nat
 kk:IntKind
 l:List Nat
def LA (I:nI) (o:Oper):Option (Int × Operand):=match o.op,o.dst,o.guard with
 | .insert t (.tmp m) (.const (.int kk a)) v,none,none=>cond (Nat.beq t I.t && (Nat.beq m I.m && decide (kk=I.kk))) (some (a,v)) none
 | _,_,_=>none
def mj (ops:Array Oper) (I:nI) (i:Nat):Option (Int × Operand):=(ops[i]?).bind (LA I)
def FY (listed:Array Bool) (o:Oper):Bool:=o.after.toList.all fun e=>!Region.binds .any e || listed.getD e.on false
def DC (ops:Array Oper) (I:nI) (listed:Array Bool):Bool:=(List.range ops.size).all fun j=>listed.getD j true || (I.l.contains j || (match ops[j]? with
 | some o=>I.l.all fun i=>o.after.toList.any fun e=>Region.binds .any e && Nat.beq e.on i
 | none=>true))
def pU (ops:Array Oper) (I:nI) (listed:Array Bool):Bool :=
 DC ops I listed && (I.l.all (fun i=>!listed.getD i true) && (Nat.beq listed.size ops.size && (I.l.all (fun i=>Nat.blt i ops.size && ((mj ops I i).isSome && (match ops[i]? with | some o=>FY listed o | none=>false)))
  && (decide I.l.Nodup && decide (I.l.map fun i=>((mj ops I i).map (·.1)).getD 0).Nodup))))
def gx (listed:Array Bool) (l:List Nat):Array Bool:=l.foldl (fun a i=>a.setIfInBounds i true) listed
theorem vg:∀ (l:List Nat) (a:Array Bool),(gx a l).size=a.size
 | [],_=>rfl
 | i::l,a=>by
   show (gx (a.setIfInBounds i true) l).size=_
   rw [vg l]; simp
theorem xJ:∀ (l:List Nat) (a:Array Bool) (j:Nat),(gx a l).getD j true=false ↔ a.getD j true=false/\j ∉ l
 | [],_,_=>by simp [gx]
 | i::l,a,j=>by
   show (gx (a.setIfInBounds i true) l).getD j true=false ↔ _
   rw [xJ l]
   by_cases e:i=j
   . subst e
     have:(a.setIfInBounds i true).getD i true=true:=by
      by_cases h:i < a.size
      . simp [h]
      . simp [xD (Nat.le_of_not_lt h)]
     rw [this]; simp
   . rw [getD_set_ne true e]; simp [Ne.symm e]
def nB (C:cT) (ops:Array Oper) (ρ:Env) (I:nI):List uQ:=I.l.filterMap fun i=>(mj ops I i).map fun p=>⟨i,p.1,ρ.ev C p.2⟩
def Lz (C:cT) (ops:Array Oper) (B:List Nat) (I:nI) (K:Env->St->Prop) (ρ:Env) (U:St):Prop :=
 ∃ id,ρ.get I.m=.mp id/\U.mp id=some ([],[])/\id ∉ B/\K ρ (U.set id (.mp (pe I.kk (nB C ops ρ I) ([],[])).1 (pe I.kk (nB C ops ρ I) ([],[])).2))
theorem LB {I:nI} {o:Oper} {a:Int} {v:Operand} (h:LA I o=some (a,v)):o.op=.insert I.t (.tmp I.m) (.const (.int I.kk a)) v/\o.dst=none/\o.guard=none:=by
 unfold LA at h
 split at h
 . rename_i t m kk a' v' h1 h2 h3
   cases hc:(Nat.beq t I.t && (Nat.beq m I.m && decide (kk=I.kk))) with
   | false=>rw [hc] at h; cases h
   | true =>
     rw [hc] at h
     simp only [bX,da] at hc
     obtain ⟨e1,e2,e3⟩:=hc
     have e1:=eQ e1
     have e2:=eQ e2
     simp only [cond_true,iW,gJ] at h
     obtain ⟨rfl,rfl⟩:=h
     exact ⟨by rw [h1,e1,e2,e3],h2,h3⟩
 . cases h
theorem JG {U:St} {id:Nat} {kv:List AV × List AV} (h:U.mp id=some kv):U.set id (.mp kv.1 kv.2)=U:=by
 have:=St.pj.1 h
 simp only [St.set]
 cases U with
 | mk live nb =>
   simp only [St.mk.injEq,and_true]
   funext q
   split
   . rename_i e; subst e; exact this.symm
   . rfl
theorem Dn.gx {I:nI} {listed:Array Bool} (hD:Dn ops listed) (hc:pU ops I listed=true):Dn ops (Go.Rip.gx listed I.l):=by
 simp only [pU,bX,ep] at hc
 obtain ⟨h0,h1,h2,h3,_⟩:=hc
 have h2:=eQ h2
 have mono:∀ (l:List Nat) (a:Array Bool) (j:Nat),a.getD j false=true->(Go.Rip.gx a l).getD j false=true:=fun l=>by
  induction l with
  | nil=>exact fun a j h=>h
  | cons i l ih=>exact fun a j h=>ih _ j (getD_set_true h)
 intro m o ho hl e he hb
 by_cases hm:m ∈ I.l
 . have:=(h3 m hm).2.2
   rw [ho] at this
   simp only [FY,ep,jI] at this
   have:=this e (by simpa using he)
   rw [hb] at this
   exact mono _ _ _ (by simpa using this)
 . have aM:m < listed.size:=by rw [h2]; exact (kG.1 ho).1
   have hlm:listed.getD m false=true:=by
    cases hh:listed.getD m true with
    | false =>
      have k:=(xJ I.l listed m).2 ⟨hh,hm⟩
      have hs:m < (Go.Rip.gx listed I.l).size:=by rw [vg]; exact aM
      simp [hs] at k hl
      rw [k] at hl; cases hl
    | true=>simp [aM] at hh ⊢; exact hh
   exact mono _ _ _ (hD m o ho hlm e he hb)
theorem N6 {I:nI} {listed:Array Bool} {e:TypeId} {mm:Nat} {K1:Env->St->Prop} (ht:qn C.P I.t=some (.i,e)) (hc:pU ops I listed=true)
 (hK1:∀ ρ U,Dn ops (gx listed I.l)->cL B aw U->K1 ρ U->mb C mu ops (cL B aw) K Kp mm (gx listed I.l) ρ U):∀ ρ U,Dn ops listed->cL B aw U->Lz C ops B I K1 ρ U->mb C mu ops (cL B aw) K Kp (I.l.length+mm) listed ρ U:=by
 rintro ρ U hD hI ⟨id,hm,Hg,hB,hK⟩
 have hDs:=hD.gx hc
 simp only [pU,bX,ep,da,Bool.not_eq_true'] at hc
 obtain ⟨h0,h1,h2,h3,h4,h5⟩:=hc
 have h2:=eQ h2
 have Lx:∀ i ∈ I.l,∃ a v,mj ops I i=some (a,v):=fun i hi=>by
  have:=(h3 i hi).2.1
  obtain ⟨p,hp⟩:=Option.isSome_iff_exists.1 this
  exact ⟨p.1,p.2,hp⟩
 have mN:∀ x,x ∈ nB C ops ρ I ↔ ∃ i ∈ I.l,∃ a v,mj ops I i=some (a,v)/\x=⟨i,a,ρ.ev C v⟩:=fun x=>by
  simp only [nB,List.mem_filterMap,o1]
  constructor
  . rintro ⟨i,hi,⟨a,v⟩,hp,rfl⟩; exact ⟨i,hi,a,v,hp,rfl⟩
  . rintro ⟨i,hi,a,v,hp,rfl⟩; exact ⟨i,hi,(a,v),hp,rfl⟩
 have pS:∀ j,(∃ x ∈ nB C ops ρ I,x.i=j) ↔ j ∈ I.l:=fun j=>by
  constructor
  . rintro ⟨x,hx,rfl⟩
    obtain ⟨i,hi,a,v,hp,rfl⟩:=(mN _).1 hx
    exact hi
  . intro hj
    obtain ⟨a,v,hp⟩:=Lx j hj
    exact ⟨_,(mN _).2 ⟨j,hj,a,v,hp,rfl⟩,rfl⟩
 rw [<- JG Hg]
 have hlen:(nB C ops ρ I).length=I.l.length:=by
  have:∀ l:List Nat,(∀ i ∈ l,∃ a v,mj ops I i=some (a,v))->(l.filterMap fun i=>(mj ops I i).map fun p=>(⟨i,p.1,ρ.ev C p.2⟩:uQ)).length=l.length:=fun l=>by
   induction l with
   | nil=>intro _; rfl
   | cons i l ih =>
     intro h
     obtain ⟨a,v,hp⟩:=h i (by simp)
     simp only [List.filterMap_cons,hp,Option.map_some,gu,ih fun j hj=>h j (by simp [hj])]
  exact this _ Lx
 have hpw:(nB C ops ρ I).Pairwise (fun x y=>x.i ≠ y.i/\x.key ≠ y.key):=by
  have:∀ l:List Nat,(∀ i ∈ l,∃ a v,mj ops I i=some (a,v))->l.Nodup->(l.map fun i=>((mj ops I i).map (·.1)).getD 0).Nodup->(l.filterMap fun i=>(mj ops I i).map fun p=>(⟨i,p.1,ρ.ev C p.2⟩:uQ)).Pairwise (fun x y=>x.i ≠ y.i/\x.key ≠ y.key):=fun l=>by
   induction l with
   | nil=>intro _ _ _; exact List.Pairwise.nil
   | cons i l ih =>
     intro h hn hk
     obtain ⟨a,v,hp⟩:=h i (by simp)
     rw [List.nodup_cons] at hn
     rw [dV,List.nodup_cons] at hk
     simp only [List.filterMap_cons,hp,Option.map_some]
     refine List.Pairwise.cons (fun y hy=>?_) (ih (fun j hj=>h j (by simp [hj])) hn.2 hk.2)
     rw [List.mem_filterMap] at hy
     obtain ⟨j,hj,hjy⟩:=hy
     rw [o1] at hjy
     obtain ⟨p,sG,rfl⟩:=hjy
     refine ⟨fun e=>hn.1 (by have e:i=j:=e; rw [e]; exact hj),fun e=>hk.1 ?_⟩
     have e:a=p.1:=e
     refine List.mem_map.2 ⟨j,hj,?_⟩
     rw [sG,hp]; simp [e]
  exact this _ Lx h4 h5
 refine Ws (kk:=I.kk) ht hm hB mm _ (nB C ops ρ I) listed U ([],[]) hlen ?_ ?_ hpw ?_ hI ⟨rfl,fun y hy=>by cases hy⟩ (fun x hx=>by simp) ?_
 . intro x hx
   exact h1 x.i ((pS x.i).1 ⟨x,hx,rfl⟩)
 . intro j o ho hj
   have aM:j < ops.size:=(kG.1 ho).1
   simp only [DC,ep,List.mem_range,jI] at h0
   have:=h0 j aM
   rw [ho,hj] at this
   rcases this with h | h | h
   . cases h
   . left; exact (pS j).2 (by simpa using h)
   . right
     intro x hx
     simp only [ep] at h
     have:=h x.i ((pS x.i).1 ⟨x,hx,rfl⟩)
     rw [List.any_eq_true] at this
     obtain ⟨ed,he,hb⟩:=this
     simp only [bX] at hb
     exact ⟨ed,by simpa using he,hb.1,eQ hb.2⟩
 . intro x hx
   obtain ⟨i,hi,a,v,hp,rfl⟩:=(mN _).1 hx
   unfold mj at hp
   rw [Option.bind_eq_some_iff] at hp
   obtain ⟨o,ho,hp⟩:=hp
   obtain ⟨q1,q2,q3⟩:=LB hp
   refine ⟨o,v,ho,q1,q2,q3,rfl,fun ed he hb=>?_⟩
   have:=(h3 i hi).2.2
   rw [ho] at this
   simp only [FY,ep,jI] at this
   have:=this ed (by simpa using he)
   rw [hb] at this
   simpa using this
 . intro mq eE ED
   have e:mq=gx listed I.l:=by
    apply Array.ext (by rw [vg,eE])
    intro j yi J9
    have k1:=ED j
    have k2:=xJ I.l listed j
    rw [pS] at k1
    have k3:mq.getD j true=false ↔ (gx listed I.l).getD j true=false:=k1.trans k2.symm
    have e1:mq.getD j true=mq[j]:=by simp [yi]
    have e2:(gx listed I.l).getD j true=(gx listed I.l)[j]:=by simp [J9]
    rw [e1,e2] at k3
    cases h1:mq[j] <;> cases h2:(gx listed I.l)[j] <;> simp_all
   rw [e]
   refine hK1 ρ _ hDs ?_ hK
   intro b hb
   have cV:b ≠ id:=fun e=>hB (e ▸ hb)
   simp only [St.set,if_neg cV]
   exact hI b hb
def uF (P:Program) (ops:Array Oper) (dm:List (Bool × Nat)) (I:nI) (post:List (Bool × Nat)):Bool :=
 (match oh ops dm (Array.replicate ops.size false) with | some l=>pU ops I l && iD ops post (gx l I.l) | none=>false) && (Nat.beq (dm.length+(I.l.length+post.length)) ops.size && (match qn P I.t with | some (.i,_)=>true | _=>false))
theorem bI.O1 {nt id:Nat} {ro:Ro} {Q:Ex->Env->St->Prop} {ρ:Env} {U:St} (dm:List (Bool × Nat)) (I:nI) (post:List (Bool × Nat)) (hm:C.P.follows .mixedOrders=true) (cS:kQ nt ops=true) (hp:uF C.P ops dm I post=true)
 (h:lu C mu ops B U (Lz C ops B I (lu C mu ops B U (KQ Q) (yb Q) post)) (yb Q) dm ρ U):bI C nt ro (.region id ops true) Q ρ U:=by
 simp only [uF,bX] at hp
 obtain ⟨h1,h2,h3⟩:=hp
 have h2:=eQ h2
 split at h3
 . rename_i e ht
   split at h1
   . rename_i l hl
     rw [bX] at h1
     refine bI.zH mu (cL B U) hm cS ?_
     have:=xr (N6 ht h1.1 (fun dY af hD' Cs hk=>rW post _ dY af h1.2 hD' (.inr Cs) hk)) dm _ ρ U hl (Dn.none _ _) (fun _ _=>rfl) h
     rw [h2] at this
     exact this
   . cases h1
 . cases h3
end
end Go.Rip
namespace Go.Rip
open Go.RowKit
structure Row where
 d:Nat
 l:Nat
 a:Nat
def K5:Option Nat->Nat
 | some d=>2 ^ d
 | none=>0
def pw:List Nat->Nat
 | []=>0
 | d::l=>Nat.lor (2 ^ d) (pw l)
theorem dS (k:Nat):∀ l:List Nat,(pw l).testBit k=true ↔ k ∈ l
 | []=>by simp [pw]
 | d::l=>by
   show (2 ^ d ||| pw l).testBit k=true ↔ _
   rw [Nat.testBit_or,Nat.testBit_two_pow,jI,dS k l]
   simp [eq_comm]
theorem jK (k:Nat) (o:Option Nat):(K5 o).testBit k=true ↔ o=some k:=by
 cases o with
 | none=>simp [K5]
 | some d=>simp [K5,Nat.testBit_two_pow]
def yA (o:Oper):List Nat:=(o.after.toList.filter fun e=>Region.binds .any e).map (·.on)
def rowOf (ops:Array Oper) (o:Oper):Row:=⟨K5 o.dst,pw (o.looksAt ops),pw (yA o)⟩
def mT (a b:Nat):Bool:=Nat.beq (Nat.land a b) a
def Lb (a b:Nat):Bool:=Nat.beq (Nat.land a b) 0
theorem rZ {a b:Nat} (h:mT a b=true) (k:Nat) (hk:a.testBit k=true):b.testBit k=true:=by
 have e:a &&& b=a:=eQ h
 have:=congrArg (fun n=>n.testBit k) e
 simp only [Nat.testBit_and,hk,Bool.true_and] at this
 exact this
theorem pO {a b:Nat} (h:Lb a b=true) (k:Nat) (hk:a.testBit k=true):¬ b.testBit k=true:=by
 have e:a &&& b=0:=eQ h
 have:=congrArg (fun n=>n.testBit k) e
 simp only [Nat.testBit_and,hk,Bool.true_and,Nat.zero_testBit] at this
 simp [this]
def hasB (m i:Nat):Bool:=Nat.beq (Nat.land (Nat.shiftRight m i) 1) 1
theorem nA (m i:Nat):hasB m i=m.testBit i:=by
 have e:Nat.land (Nat.shiftRight m i) 1=1 &&& (m >>> i):=Nat.and_comm _ _
 unfold hasB Nat.testBit
 rw [e]
 cases h:Nat.beq (1 &&& m >>> i) 1 with
 | true=>have:=eQ h; rw [this]; rfl
 | false =>
   have h1:(1 &&& m >>> i) ≠ 1:=fun e=>by rw [e] at h; simp at h
   have h2:(1 &&& m >>> i)=0:=by
    have:1 &&& (m >>> i)=(m >>> i) % 2:=Nat.one_and_eq_mod_two _
    omega
   rw [h2]; rfl
def Gb (i:Nat) (x y:Row):Bool:=hasB y.a i || (Lb x.d y.l && (Lb x.d y.d && Lb y.d x.l))
def Bm (done i:Nat) (x:Row):List Row->Nat->Bool
 | [],_=>true
 | y::r,j=>(Nat.beq j i || (hasB done j || Gb i x y)) && Bm done i x r (j+1)
def Bl (done i:Nat):List Row->Nat->Bool
 | [],_=>true
 | y::r,j=>(Nat.beq j i || (hasB done j || !mT y.a done)) && Bl done i r (j+1)
def xv (rows:List Row) (n:Nat):List (Bool × Nat)->Nat->Bool
 | [],done=>Nat.beq done (2 ^ n - 1)
 | (true,i)::r,done=>match rows[i]? with
   | some x=>!hasB done i && (mT x.a done && (Bm done i x rows 0 && xv rows n r (Nat.lor done (2 ^ i))))
   | none=>false
 | (false,i)::r,done=>match rows[i]? with
   | some x=>!hasB done i && (mT x.a done && (Bl done i rows 0 && xv rows n r (Nat.lor done (2 ^ i))))
   | none=>false
theorem yC {done i:Nat} {x:Row}:∀ {l:List Row} {j:Nat},Bm done i x l j=true->∀ k y,l[k]?=some y->(j+k=i\/done.testBit (j+k)=true\/Gb i x y=true)
 | [],_,_,k,y,hy=>by simp at hy
 | z::r,j,h,k,y,hy=>by
   simp only [Bm,bX,jI,nA] at h
   cases k with
   | zero =>
     simp at hy; subst hy
     rcases h.1 with h | h | h
     . exact .inl (eQ h)
     . exact .inr (.inl h)
     . exact .inr (.inr h)
   | succ k =>
     have:=yC h.2 k y (by simpa using hy)
     rw [show j+(k+1)=j+1+k by omega]; exact this
theorem yB {done i:Nat}:∀ {l:List Row} {j:Nat},Bl done i l j=true->∀ k y,l[k]?=some y->(j+k=i\/done.testBit (j+k)=true\/mT y.a done=false)
 | [],_,_,k,y,hy=>by simp at hy
 | z::r,j,h,k,y,hy=>by
   simp only [Bl,bX,jI,nA,Bool.not_eq_true'] at h
   cases k with
   | zero =>
     simp at hy; subst hy
     rcases h.1 with h | h | h
     . exact .inl (eQ h)
     . exact .inr (.inl h)
     . exact .inr (.inr h)
   | succ k =>
     have:=yB h.2 k y (by simpa using hy)
     rw [show j+(k+1)=j+1+k by omega]; exact this
def iy (n:Nat) (listed:Array Bool) (done:Nat):Prop:=listed.size=n/\∀ k,k < n->listed[k]?=some (done.testBit k)
section
variable {ops:Array Oper} {listed:Array Bool} {done:Nat}
theorem iy.get (h:iy ops.size listed done) {k:Nat} (hk:k < ops.size) (d:Bool):listed.getD k d=done.testBit k:=by
 have:=h.2 k hk
 simp [this]
theorem iy.out (h:iy ops.size listed done) {k:Nat} (hk:¬ k < ops.size) (d:Bool):listed.getD k d=d:=by
 have:listed[k]?=none:=xD (by rw [h.1]; omega)
 simp [this]
theorem iy.set (h:iy ops.size listed done) (i:Nat):iy ops.size (listed.setIfInBounds i true) (Nat.lor done (2 ^ i)):=by
 refine ⟨by simp [h.1],fun k hk=>?_⟩
 show _=some ((done ||| 2 ^ i).testBit k)
 rw [Nat.testBit_or,Nat.testBit_two_pow]
 by_cases e:i=k
 . subst e
   have:i < listed.size:=by rw [h.1]; exact hk
   simp [Array.getElem?_setIfInBounds,this]
 . rw [Array.getElem?_setIfInBounds_ne e,h.2 k hk]
   simp [e]
theorem xI {i:Nat} {x:Row} (h:(ops.toList.map (rowOf ops))[i]?=some x):∃ o,ops[i]?=some o/\x=rowOf ops o:=by
 rw [mr,o1] at h
 obtain ⟨o,ho,e⟩:=h
 exact ⟨o,by simpa using ho,e.symm⟩
theorem tc {o:Oper} {k:Nat}:k ∈ yA o ↔ ∃ e ∈ o.after,Region.binds .any e=true/\e.on=k:=by
 simp [yA,and_assoc]
theorem pX (h:iy ops.size listed done) {j:Nat} {o:Oper} (ho:ops[j]?=some o):j ∈ Region.ready .any ops listed ↔ done.testBit j=false/\∀ k,k ∈ yA o->k < ops.size/\done.testBit k=true:=by
 have hj:j < ops.size:=(kG.1 ho).1
 rw [mem_ready,h.get hj]
 refine and_congr_right fun _=>⟨?_,?_⟩
 . rintro ⟨o',US,bA⟩ k hk
   rw [ho] at US; cases US
   obtain ⟨e,he,hb,rfl⟩:=tc.1 hk
   have:=bA e he hb
   by_cases hk:e.on < ops.size
   . rw [h.get hk] at this; exact ⟨hk,this⟩
   . rw [h.out hk] at this; cases this
 . intro bA
   refine ⟨o,ho,fun e he hb=>?_⟩
   obtain ⟨hk,ht⟩:=bA e.on (tc.2 ⟨e,he,hb,rfl⟩)
   rw [h.get hk]; exact ht
theorem FQ {i:Nat} {o:Oper} (hm:iy ops.size listed done) (ho:ops[i]?=some o) (h3:Bm done i (rowOf ops o) (ops.toList.map (rowOf ops)) 0=true):Region.free .any ops listed i=true:=by
 simp only [Region.free,ho,ep,List.mem_range,jI]
 intro j hj
 obtain ⟨oj,oe⟩:∃ oj,ops[j]?=some oj:=⟨ops[j],by simp [hj]⟩
 rw [oe]
 have hy:(ops.toList.map (rowOf ops))[j]?=some (rowOf ops oj):=by
  rw [mr]; simp [oe]
 rcases yC h3 j _ hy with e | e | e
 . left; left; simp at e; simp [e]
 . left; right; rw [hm.get hj]; simpa using e
 . right
   simp only [Gb,jI,bX,nA] at e
   show ((oj.after.any fun e=>Region.binds .any e && e.on == i) || o.apart ops oj)=true
   rw [jI]
   rcases e with e | ⟨e1,e2,e3⟩
   . left
     have:=(dS i _).1 e
     obtain ⟨ed,he,hb,CB⟩:=tc.1 this
     rw [Array.any_eq_true']
     exact ⟨ed,he,by simp [hb,CB]⟩
   . right
     have k1:∀ d,o.dst=some d->d ∉ oj.looksAt ops:=fun d hd hm=>pO e1 d ((jK d _).2 hd) ((dS d _).2 hm)
     have k2:∀ d,o.dst=some d->oj.dst ≠ some d:=fun d hd hm=>pO e2 d ((jK d _).2 hd) ((jK d _).2 hm)
     have k3:∀ d,oj.dst=some d->d ∉ o.looksAt ops:=fun d hd hm=>pO e3 d ((jK d _).2 hd) ((dS d _).2 hm)
     unfold Oper.apart
     cases AQ:o.dst <;> cases AR:oj.dst <;> simp only [bX,Bool.not_eq_true',bne_iff_ne,ne_eq,Bool.and_self,and_self,true_and,and_true]
     . rename_i d; simpa using k3 d AR
     . rename_i d; exact ⟨by simpa using k1 d AQ,by simp⟩
     . rename_i d d'
       refine ⟨⟨by simpa using k1 d AQ,fun e=>k2 d AQ (by rw [AR]; exact e)⟩,by simpa using k3 d' AR⟩
theorem zG {i:Nat} {o:Oper} (hm:iy ops.size listed done) (ho:ops[i]?=some o) (h1:done.testBit i=false) (sub:∀ k,k ∈ yA o->k < ops.size/\done.testBit k=true) (h3:Bl done i (ops.toList.map (rowOf ops)) 0=true):Region.ready .any ops listed=[i]:=by
 have key:∀ j,j ∈ Region.ready .any ops listed->j=i:=fun j hj=>by
  obtain ⟨h0,oj,oe,_⟩:=mem_ready.1 hj
  have hr:=(pX hm oe).1 hj
  have G8:j < ops.size:=(kG.1 oe).1
  have hy:(ops.toList.map (rowOf ops))[j]?=some (rowOf ops oj):=by
   rw [mr]; simp [oe]
  rcases yB h3 j _ hy with e | e | e
  . simpa using e
  . rw [dI] at e; rw [hr.1] at e; cases e
  . exfalso
    have:mT (rowOf ops oj).a done=true:=by
     unfold mT
     have e2:(rowOf ops oj).a &&& done=(rowOf ops oj).a:=by
      apply Nat.eq_of_testBit_eq
      intro k
      rw [Nat.testBit_and]
      cases hk:(rowOf ops oj).a.testBit k with
      | false=>rfl
      | true=>rw [(hr.2 k ((dS k _).1 hk)).2]; rfl
     show Nat.beq ((rowOf ops oj).a &&& done) _=true
     rw [e2]; simp
    rw [this] at e; cases e
 have mN:=(pX hm ho).2 ⟨h1,sub⟩
 have hnd:(Region.ready .any ops listed).Nodup:=(List.Pairwise.filter _ List.nodup_range)
 match hl:Region.ready .any ops listed with
 | []=>rw [hl] at mN; cases mN
 | [x]=>rw [hl] at key; rw [key x (by simp)]
 | x::y::zs =>
   rw [hl] at key hnd
   have e1:=key x (by simp)
   have e2:=key y (by simp)
   subst e1; subst e2
   simp at hnd
theorem xw:∀ (dm:List (Bool × Nat)) (listed:Array Bool) (done:Nat),iy ops.size listed done->done < 2 ^ ops.size->xv (ops.toList.map (rowOf ops)) ops.size dm done=true->iD ops dm listed=true
 | [],listed,done,hm,aM,h=>by
   have e:done=2 ^ ops.size - 1:=eQ h
   simp only [iD,List.isEmpty_iff]
   rw [List.eq_nil_iff_forall_not_mem]
   intro j hj
   obtain ⟨h0,o,ho,_⟩:=mem_ready.1 hj
   have G8:j < ops.size:=(kG.1 ho).1
   rw [hm.get G8,e,Nat.testBit_two_pow_sub_one] at h0
   simp [G8] at h0
 | (true,i)::r,listed,done,hm,aM,h=>by
   simp only [xv] at h
   split at h
   . rename_i x hx
     obtain ⟨o,ho,rfl⟩:=xI hx
     simp only [bX,Bool.not_eq_true',nA] at h
     obtain ⟨h1,h2,h3,h4⟩:=h
     have hi:i < ops.size:=(kG.1 ho).1
     have mi:Nat.lor done (2 ^ i) < 2 ^ ops.size:=Nat.or_lt_two_pow aM (Nat.pow_lt_pow_right (by omega) hi)
     have sub:∀ k,k ∈ yA o->k < ops.size/\done.testBit k=true:=fun k hk=>by
      have:=rZ h2 k ((dS k _).2 hk)
      refine ⟨?_,this⟩
      rcases gr k ops.size with h | h
      . exact h
      . rw [Nat.testBit_lt_two_pow (Nat.lt_of_lt_of_le aM (Nat.pow_le_pow_right (by omega) h))] at this; cases this
     simp only [iD,bX]
     refine ⟨⟨?_,?_⟩,xw r _ _ (hm.set i) mi h4⟩
     . simp only [List.contains_iff_mem]
       exact (pX hm ho).2 ⟨h1,sub⟩
     . simp only [Region.free,ho,ep,List.mem_range,jI]
       intro j hj
       obtain ⟨oj,oe⟩:∃ oj,ops[j]?=some oj:=⟨ops[j],by simp [hj]⟩
       rw [oe]
       have hy:(ops.toList.map (rowOf ops))[j]?=some (rowOf ops oj):=by
        rw [mr]; simp [oe]
       rcases yC h3 j _ hy with e | e | e
       . left; left; simp at e; simp [e]
       . left; right; rw [hm.get hj]; simpa using e
       . right
         simp only [Gb,jI,bX,nA] at e
         show ((oj.after.any fun e=>Region.binds .any e && e.on == i) || o.apart ops oj)=true
         rw [jI]
         rcases e with e | ⟨e1,e2,e3⟩
         . left
           have:=(dS i _).1 e
           obtain ⟨ed,he,hb,CB⟩:=tc.1 this
           rw [Array.any_eq_true']
           exact ⟨ed,he,by simp [hb,CB]⟩
         . right
           have k1:∀ d,o.dst=some d->d ∉ oj.looksAt ops:=fun d hd hm=>pO e1 d ((jK d _).2 hd) ((dS d _).2 hm)
           have k2:∀ d,o.dst=some d->oj.dst ≠ some d:=fun d hd hm=>pO e2 d ((jK d _).2 hd) ((jK d _).2 hm)
           have k3:∀ d,oj.dst=some d->d ∉ o.looksAt ops:=fun d hd hm=>pO e3 d ((jK d _).2 hd) ((dS d _).2 hm)
           unfold Oper.apart
           cases AQ:o.dst <;> cases AR:oj.dst <;> simp only [bX,Bool.not_eq_true',bne_iff_ne,ne_eq,Bool.and_self,and_self,true_and,and_true]
           . rename_i d; simpa using k3 d AR
           . rename_i d; exact ⟨by simpa using k1 d AQ,by simp⟩
           . rename_i d d'
             refine ⟨⟨by simpa using k1 d AQ,fun e=>k2 d AQ (by rw [AR]; exact e)⟩,by simpa using k3 d' AR⟩
   . cases h
 | (false,i)::r,listed,done,hm,aM,h=>by
   simp only [xv] at h
   split at h
   . rename_i x hx
     obtain ⟨o,ho,rfl⟩:=xI hx
     simp only [bX,Bool.not_eq_true',nA] at h
     obtain ⟨h1,h2,h3,h4⟩:=h
     have hi:i < ops.size:=(kG.1 ho).1
     have mi:Nat.lor done (2 ^ i) < 2 ^ ops.size:=Nat.or_lt_two_pow aM (Nat.pow_lt_pow_right (by omega) hi)
     have sub:∀ k,k ∈ yA o->k < ops.size/\done.testBit k=true:=fun k hk=>by
      have:=rZ h2 k ((dS k _).2 hk)
      refine ⟨?_,this⟩
      rcases gr k ops.size with h | h
      . exact h
      . rw [Nat.testBit_lt_two_pow (Nat.lt_of_lt_of_le aM (Nat.pow_le_pow_right (by omega) h))] at this; cases this
     simp only [iD,bX,beq_iff_eq]
     refine ⟨?_,xw r _ _ (hm.set i) mi h4⟩
     have key:∀ j,j ∈ Region.ready .any ops listed->j=i:=fun j hj=>by
      obtain ⟨h0,oj,oe,_⟩:=mem_ready.1 hj
      have hr:=(pX hm oe).1 hj
      have G8:j < ops.size:=(kG.1 oe).1
      have hy:(ops.toList.map (rowOf ops))[j]?=some (rowOf ops oj):=by
       rw [mr]; simp [oe]
      rcases yB h3 j _ hy with e | e | e
      . simpa using e
      . rw [dI] at e; rw [hr.1] at e; cases e
      . exfalso
        have:mT (rowOf ops oj).a done=true:=by
         unfold mT
         have e2:(rowOf ops oj).a &&& done=(rowOf ops oj).a:=by
          apply Nat.eq_of_testBit_eq
          intro k
          rw [Nat.testBit_and]
          cases hk:(rowOf ops oj).a.testBit k with
          | false=>rfl
          | true=>rw [(hr.2 k ((dS k _).1 hk)).2]; rfl
         show Nat.beq ((rowOf ops oj).a &&& done) _=true
         rw [e2]; simp
        rw [this] at e; cases e
     have mN:=(pX hm ho).2 ⟨h1,sub⟩
     have hnd:(Region.ready .any ops listed).Nodup:=(List.Pairwise.filter _ List.nodup_range)
     match hl:Region.ready .any ops listed with
     | []=>rw [hl] at mN; cases mN
     | [x]=>rw [hl] at key; rw [key x (by simp)]
     | x::y::zs =>
       rw [hl] at key hnd
       have e1:=key x (by simp)
       have e2:=key y (by simp)
       subst e1; subst e2
       simp at hnd
   . cases h
end
def C2:List Row->List Row->Bool
 | [],[]=>true
 | x::xs,y::ys=>Nat.beq x.d y.d && (Nat.beq x.l y.l && (Nat.beq x.a y.a && C2 xs ys))
 | _,_=>false
theorem BO:∀ {a b:List Row},C2 a b=true->a=b
 | [],[],_=>rfl
 | x::xs,y::ys,h=>by
   simp only [C2,bX] at h
   obtain ⟨h1,h2,h3,h4⟩:=h
   obtain ⟨a,b,c⟩:=x
   obtain ⟨a',b',c'⟩:=y
   have e1:a=a':=eQ h1
   have e2:b=b':=eQ h2
   have e3:c=c':=eQ h3
   rw [e1,e2,e3,BO h4]
 | [],_::_,h=>by cases h
 | _::_,[],h=>by cases h
structure Pl where
 steps:List (Bool × Nat)
 rows:List Row
def HV (ops:Array Oper) (p:Pl):Bool:=C2 (ops.toList.map (rowOf ops)) p.rows && (xv p.rows ops.size p.steps 0 && Nat.beq p.steps.length ops.size)
theorem DU {ops:Array Oper} {p:Pl} (h:HV ops p=true):(iD ops p.steps (Array.replicate ops.size false) && (p.steps.length == ops.size))=true:=by
 simp only [HV,bX] at h
 obtain ⟨h1,h2,h3⟩:=h
 rw [<- BO h1] at h2
 simp only [bX,beq_iff_eq]
 refine ⟨xw _ _ 0 ⟨by simp,fun k hk=>by simp [hk]⟩ (Nat.two_pow_pos _) h2,eQ h3⟩
def pW (ops:Array Oper) (rows:List Row):List (Bool × Nat)->Nat->Option Nat
 | [],done=>some done
 | (true,i)::r,done=>match rows[i]? with
   | some x=>cond (!hasB done i && (mT x.a done && Bm done i x rows 0)) (pW ops rows r (Nat.lor done (2 ^ i))) none
   | none=>none
 | (false,i)::r,done=>match rows[i]? with
   | some x=>cond (!hasB done i && (mT x.a done && (Bl done i rows 0 && !nR ops i))) (pW ops rows r (Nat.lor done (2 ^ i))) none
   | none=>none
section
variable {ops:Array Oper}
theorem xx:∀ (dm:List (Bool × Nat)) (listed:Array Bool) (done dn:Nat),iy ops.size listed done->done < 2 ^ ops.size->pW ops (ops.toList.map (rowOf ops)) dm done=some dn ->
 ∃ l,oh ops dm listed=some l/\iy ops.size l dn/\dn < 2 ^ ops.size
 | [],listed,done,dn,hm,aM,h=>by
   simp only [pW,iW] at h
   subst h
   exact ⟨listed,rfl,hm,aM⟩
 | (b,i)::r,listed,done,dn,hm,aM,h=>by
   obtain ⟨x,hx⟩:∃ x,(ops.toList.map (rowOf ops))[i]?=some x:=by
    cases b <;> simp only [pW] at h <;> split at h <;> first | exact ⟨_,by assumption⟩ | cases h
   obtain ⟨o,ho,rfl⟩:=xI hx
   have hi:i < ops.size:=(kG.1 ho).1
   have mi:Nat.lor done (2 ^ i) < 2 ^ ops.size:=Nat.or_lt_two_pow aM (Nat.pow_lt_pow_right (by omega) hi)
   have sub:mT (rowOf ops o).a done=true->∀ k,k ∈ yA o->k < ops.size/\done.testBit k=true:=fun h2 k hk=>by
    have:=rZ h2 k ((dS k _).2 hk)
    refine ⟨?_,this⟩
    rcases gr k ops.size with h | h
    . exact h
    . rw [Nat.testBit_lt_two_pow (Nat.lt_of_lt_of_le aM (Nat.pow_le_pow_right (by omega) h))] at this; cases this
   cases b with
   | true =>
     simp only [pW,hx] at h
     cases hc:(!hasB done i && (mT (rowOf ops o).a done && Bm done i (rowOf ops o) (ops.toList.map (rowOf ops)) 0)) with
     | false=>rw [hc] at h; cases h
     | true =>
       rw [hc,cond_true] at h
       simp only [bX,Bool.not_eq_true',nA] at hc
       obtain ⟨l,k1,k2,k3⟩:=xx r _ _ dn (hm.set i) mi h
       refine ⟨l,?_,k2,k3⟩
       have Ho:(Region.ready .any ops listed).contains i=true:=by
        simp only [List.contains_iff_mem]; exact (pX hm ho).2 ⟨hc.1,sub hc.2.1⟩
       have F4:Region.free .any ops listed i=true:=FQ hm ho hc.2.2
       simp only [oh,Ho,F4,Bool.and_self,cond_true]
       exact k1
   | false =>
     simp only [pW,hx] at h
     cases hc:(!hasB done i && (mT (rowOf ops o).a done && (Bl done i (ops.toList.map (rowOf ops)) 0 && !nR ops i))) with
     | false=>rw [hc] at h; cases h
     | true =>
       rw [hc,cond_true] at h
       simp only [bX,Bool.not_eq_true',nA] at hc
       obtain ⟨l,k1,k2,k3⟩:=xx r _ _ dn (hm.set i) mi h
       refine ⟨l,?_,k2,k3⟩
       have uY:Region.ready .any ops listed=[i]:=zG hm ho hc.1 (sub hc.2.1) hc.2.2.1
       have NP:nR ops i=false:=by simpa using hc.2.2.2
       simp only [oh,uY,NP,dN,dx,Bool.and_self,cond_true]
       exact k1
def K3 (im:Nat) (done:Nat):List Row->Nat->Bool
 | [],_=>true
 | y::r,j=>(hasB done j || (hasB im j || mT im y.a)) && K3 im done r (j+1)
def Od (ops:Array Oper) (rows:List Row) (I:nI) (done:Nat):Bool:=I.l.all fun i=>!hasB done i && ((mj ops I i).isSome && (match rows[i]? with | some x=>mT x.a done | none=>false))
def increasing:List Nat->Bool
 | a::b::l=>Nat.blt a b && increasing (b::l)
 | _=>true
def rp:List Int->Bool
 | a::b::l=>decide (a < b) && rp (b::l)
 | _=>true
def BF (P:Program) (ops:Array Oper) (rows:List Row) (dm:List (Bool × Nat)) (I:nI) (post:List (Bool × Nat)):Bool :=
 C2 (ops.toList.map (rowOf ops)) rows && ((match pW ops rows dm 0 with
  | some dn=>K3 (pw I.l) dn rows 0 && (Od ops rows I dn && xv rows ops.size post (Nat.lor dn (pw I.l)))
  | none=>false) && (increasing I.l && (rp (I.l.map fun i=>((mj ops I i).map (·.1)).getD 0) && (Nat.beq (dm.length+(I.l.length+post.length)) ops.size && (match qn P I.t with | some (.i,_)=>true | _=>false)))))
theorem ym:∀ l:List Nat,increasing l=true->l.Pairwise (· < ·)
 | [],_=>List.Pairwise.nil
 | [a],_=>List.pairwise_singleton ..
 | a::b::l,h=>by
   simp only [increasing,bX] at h
   have J7:a < b:=Nat.le_of_ble_eq_true h.1
   have ih:=ym (b::l) h.2
   refine List.Pairwise.cons (fun y hy=>?_) ih
   rcases cF.1 hy with rfl | hy
   . exact J7
   . exact Nat.lt_trans J7 ((List.pairwise_cons.1 ih).1 y hy)
theorem vU:∀ l:List Int,rp l=true->l.Pairwise (· < ·)
 | [],_=>List.Pairwise.nil
 | [a],_=>List.pairwise_singleton ..
 | a::b::l,h=>by
   simp only [rp,bX,da] at h
   have ih:=vU (b::l) h.2
   refine List.Pairwise.cons (fun y hy=>?_) ih
   rcases cF.1 hy with rfl | hy
   . exact h.1
   . exact Int.lt_trans h.1 ((List.pairwise_cons.1 ih).1 y hy)
theorem Ek {im done:Nat}:∀ {l:List Row} {j:Nat},K3 im done l j=true->∀ k y,l[k]?=some y->(done.testBit (j+k)=true\/im.testBit (j+k)=true\/mT im y.a=true)
 | [],_,_,k,y,hy=>by simp at hy
 | z::r,j,h,k,y,hy=>by
   simp only [K3,bX,jI,nA] at h
   cases k with
   | zero=>simp at hy; subst hy; exact h.1
   | succ k =>
     have:=Ek h.2 k y (by simpa using hy)
     rw [show j+(k+1)=j+1+k by omega]; exact this
theorem iy.gx {n:Nat}:∀ (l:List Nat) (listed:Array Bool) (done:Nat),iy ops.size listed done->iy ops.size (Go.Rip.gx listed l) (Nat.lor done (pw l))
 | [],listed,done,h=>by
   show iy ops.size listed (done ||| 0)
   rw [Nat.or_zero]; exact h
 | i::l,listed,done,h=>by
   have:=iy.gx (n:=n) l _ _ (h.set i)
   show iy ops.size (Go.Rip.gx (listed.setIfInBounds i true) l) (done ||| (2 ^ i ||| pw l))
   rw [<- Nat.or_assoc]; exact this
theorem Js {P:Program} {rows:List Row} {dm:List (Bool × Nat)} {I:nI} {post:List (Bool × Nat)} (h:BF P ops rows dm I post=true):uF P ops dm I post=true:=by
 simp only [BF,bX] at h
 obtain ⟨h1,h2,h3,h4,h5,h6⟩:=h
 rw [<- BO h1] at h2
 split at h2
 . rename_i dn hd
   simp only [bX] at h2
   obtain ⟨b1,b2,b3⟩:=h2
   obtain ⟨l,k1,k2,k3⟩:=xx dm (Array.replicate ops.size false) 0 dn ⟨by simp,fun k hk=>by simp [hk]⟩ (Nat.two_pow_pos _) hd
   have aen:=ym _ h3
   have acx:=vU _ h4
   simp only [Od,ep,bX,Bool.not_eq_true',nA] at b2
   have wQ:∀ i ∈ I.l,∃ o,ops[i]?=some o/\mT (rowOf ops o).a dn=true:=fun i hi=>by
    have:=(b2 i hi).2.2
    split at this
    . rename_i x hx
      obtain ⟨o,ho,rfl⟩:=xI hx
      exact ⟨o,ho,this⟩
    . cases this
   have aM:∀ i ∈ I.l,i < ops.size:=fun i hi=>by
    obtain ⟨o,ho,_⟩:=wQ i hi
    exact (kG.1 ho).1
   have him:pw I.l < 2 ^ ops.size:=by
    have:∀ l:List Nat,(∀ i ∈ l,i < ops.size)->pw l < 2 ^ ops.size:=fun l=>by
     induction l with
     | nil=>intro _; exact Nat.two_pow_pos _
     | cons i l ih=>intro hh; exact Nat.or_lt_two_pow (Nat.pow_lt_pow_right (by omega) (hh i (by simp))) (ih fun j hj=>hh j (by simp [hj]))
    exact this _ aM
   have Xw:∀ {o:Oper} {m:Nat},m < 2 ^ ops.size->mT (rowOf ops o).a m=true->∀ e ∈ o.after,Region.binds .any e=true->m.testBit e.on=true:=fun {o m} NM hs e he hb =>
    rZ hs e.on ((dS _ _).2 (tc.2 ⟨e,he,hb,rfl⟩))
   simp only [uF,k1,bX]
   refine ⟨⟨?_,xw post _ _ (iy.gx (n:=0) I.l l dn k2) (Nat.or_lt_two_pow k3 him) b3⟩,h5,h6⟩
   simp only [pU,DC,bX,ep,List.mem_range,jI,da,Bool.not_eq_true']
   refine ⟨fun j hj=>?_,fun i hi=>?_,?_,fun i hi=>⟨?_,(b2 i hi).2.1,?_⟩,aen.imp (fun h=>Nat.ne_of_lt h),acx.imp (fun h=>Int.ne_of_lt h)⟩
   . obtain ⟨o,ho⟩:∃ o,ops[j]?=some o:=⟨ops[j],by simp [hj]⟩
     have hy:(ops.toList.map (rowOf ops))[j]?=some (rowOf ops o):=by rw [mr]; simp [ho]
     rcases Ek b1 j _ hy with h | h | h
     . left; rw [k2.get hj]; simpa using h
     . right; left
       have:=(dS _ _).1 h
       simpa using this
     . right; right
       rw [ho]
       show (I.l.all fun i=>o.after.toList.any fun e=>Region.binds .any e && Nat.beq e.on i)=true
       rw [ep]
       intro i hi
       have:=rZ h i ((dS _ _).2 hi)
       obtain ⟨e,he,hb,CB⟩:=tc.1 ((dS _ _).1 this)
       rw [List.any_eq_true]
       exact ⟨e,by simpa using he,by simp [hb,CB]⟩
   . rw [k2.get (aM i hi)]; exact (b2 i hi).1
   . rw [k2.1]; simp
   . show Nat.ble (i+1) ops.size=true
     exact Nat.ble_eq_true_of_le (aM i hi)
   . obtain ⟨o,ho,hs⟩:=wQ i hi
     rw [ho]
     simp only [FY,ep,jI,Bool.not_eq_true']
     intro e he
     cases hb:Region.binds .any e with
     | false=>exact .inl rfl
     | true =>
       right
       have ht:=Xw k3 hs e (by simpa using he) hb
       have mi:e.on < ops.size:=by
        rcases gr e.on ops.size with h | h
        . exact h
        . rw [Nat.testBit_lt_two_pow (Nat.lt_of_lt_of_le k3 (Nat.pow_le_pow_right (by omega) h))] at ht; cases ht
       rw [k2.get mi]; exact ht
 . cases h2
end
end Go.Rip
namespace Go.Rip
open Go.RowKit
inductive T (α:Type) where
 | e
 | n (l:T α) (v:Option α) (r:T α)
theorem zo {a b:Nat} (h:a ≠ b):Nat.beq a b=false:=by
 cases hb:Nat.beq a b with
 | false=>rfl
 | true=>exact absurd (eQ hb) h
theorem LU {a b:Nat} (h:a=b):Nat.beq a b=true:=by subst h; exact Nat.beq_refl a
namespace T
variable {α:Type}
def get:T α->Nat->Option α
 | .e,_=>none
 | .n l v r,i=>cond (Nat.beq i 0) v (cond (Nat.beq (i % 2) 1) (l.get (i / 2)) (r.get (i / 2 - 1)))
def xK:Nat->T α->Nat->Option α->T α
 | 0,t,_,_=>t
 | f+1,.e,i,v=>cond (Nat.beq i 0) (.n .e v .e) (cond (Nat.beq (i % 2) 1) (.n (xK f .e (i / 2) v) none .e) (.n .e none (xK f .e (i / 2 - 1) v)))
 | f+1,.n l w r,i,v=>cond (Nat.beq i 0) (.n l v r) (cond (Nat.beq (i % 2) 1) (.n (xK f l (i / 2) v) w r) (.n l w (xK f r (i / 2 - 1) v)))
def set (t:T α) (i:Nat) (v:Option α):T α:=xK (i+1) t i v
theorem SE:∀ (f:Nat) (t:T α) (i j:Nat) (v:Option α),i < f->(xK f t i v).get j=if j=i then v else t.get j:=by
 intro f
 induction f with
 | zero=>intro t i j v h; omega
 | succ f ih =>
   intro t i j v h
   have key:∀ (l r:T α) (w:Option α),(cond (Nat.beq i 0) (.n l v r) (cond (Nat.beq (i % 2) 1) (.n (xK f l (i / 2) v) w r) (.n l w (xK f r (i / 2 - 1) v))):T α).get j=if j=i then v else (T.n l w r).get j:=fun l r w=>by
    by_cases hi:i=0
    . subst hi
      simp only [Nat.beq_refl,cond_true,get]
      by_cases hj:j=0
      . subst hj; simp
      . have:Nat.beq j 0=false:=zo hj
        simp [this,hj]
    . have sE:Nat.beq i 0=false:=zo hi
      rw [sE,cond_false]
      by_cases h1:i % 2=1
      . have hb:Nat.beq (i % 2) 1=true:=LU h1
        rw [hb,cond_true]
        simp only [get]
        by_cases hj:j=0
        . subst hj
          have:(0:Nat) ≠ i:=fun e=>hi e.symm
          simp [this]
        . have EA:Nat.beq j 0=false:=zo hj
          rw [EA,cond_false,cond_false]
          by_cases yi:j % 2=1
          . have G9:Nat.beq (j % 2) 1=true:=LU yi
            rw [G9,cond_true,cond_true,ih _ _ _ _ (by omega)]
            by_cases e:j=i
            . subst e; simp
            . rw [if_neg (by omega),if_neg e]
          . have G9:Nat.beq (j % 2) 1=false:=zo yi
            rw [G9,cond_false,cond_false,if_neg (by omega)]
      . have hb:Nat.beq (i % 2) 1=false:=zo h1
        rw [hb,cond_false]
        simp only [get]
        by_cases hj:j=0
        . subst hj
          have:(0:Nat) ≠ i:=fun e=>hi e.symm
          simp [this]
        . have EA:Nat.beq j 0=false:=zo hj
          rw [EA,cond_false,cond_false]
          by_cases yi:j % 2=1
          . have G9:Nat.beq (j % 2) 1=true:=LU yi
            rw [G9,cond_true,cond_true,if_neg (by omega)]
          . have G9:Nat.beq (j % 2) 1=false:=zo yi
            rw [G9,cond_false,cond_false,ih _ _ _ _ (by omega)]
            by_cases e:j=i
            . subst e; simp
            . rw [if_neg (by omega),if_neg e]
   cases t with
   | n l w r=>exact key l r w
   | e =>
     have:=key .e .e none
     simp only [xK]
     rw [this]
     congr 1
     simp only [get]
     cases Nat.beq j 0 <;> cases Nat.beq (j % 2) 1 <;> rfl
theorem tf (t:T α) (i j:Nat) (v:Option α):(t.set i v).get j=if j=i then v else t.get j:=SE _ _ _ _ _ (by omega)
def KB:List α->Nat->T α->T α
 | [],_,t=>t
 | x::xs,i,t=>KB xs (i+1) (t.set i (some x))
theorem J5:∀ (l:List α) (i:Nat) (t:T α) (j:Nat),(KB l i t).get j=if i <= j/\j < i+l.length then l[j - i]? else t.get j
 | [],i,t,j=>by simp [KB]; omega
 | x::xs,i,t,j=>by
   simp only [KB]
   rw [J5 xs (i+1) _ j,tf]
   by_cases h1:i+1 <= j/\j < i+1+xs.length
   . rw [if_pos h1,if_pos (by simp; omega)]
     have:j - i=(j - (i+1))+1:=by omega
     rw [this]; simp
   . rw [if_neg h1]
     by_cases h2:j=i
     . subst h2; simp
     . rw [if_neg h2,if_neg (by simp; omega)]
end T
def fw (t:T AV):Env:=⟨fun i=>(t.get i).getD (.aG [])⟩
theorem Nc (t:T AV) (d:Nat) (v:AV):fw (t.set d (some v))=(fw t).put d v:=by
 simp only [fw,Env.put,Env.mk.injEq]
 funext i
 rw [T.tf]
 split <;> rfl
def zz (t:T AV):Option Nat->AV->T AV
 | some d,v=>t.set d (some v)
 | none,_=>t
theorem pP (t:T AV) (d:Option Nat) (v:AV):fw (zz t d v)=(fw t).eB d v:=by
 cases d with
 | none=>rfl
 | some d=>exact Nc t d v
theorem Lc (l:List AV):fw (T.KB l 0 .e)=Env.jG l:=by
 simp only [fw,Env.jG,Env.mk.injEq]
 funext i
 rw [T.J5]
 by_cases h:i < l.length
 . rw [if_pos (by omega)]; simp [mv]
 . rw [if_neg (by omega)]
   simp [T.get,mv,zE (Nat.le_of_not_lt h)]
structure ES where
 live:T Live
 n:Nat
def bJ (e:ES):St:=⟨fun b=>e.live.get b,some e.n⟩
def ES.set (e:ES) (b:Nat) (x:Live):ES:=⟨e.live.set b (some x),e.n⟩
def ES.del (e:ES) (b:Nat):ES:=⟨e.live.set b none,e.n⟩
def ES.sh (e:ES):Option Nat->ES
 | some b=>e.del b
 | none=>e
def ES.new (e:ES) (x:Live):ES:=⟨e.live.set e.n (some x),e.n+1⟩
theorem mS (e:ES) (b:Nat) (x:Live):bJ (e.set b x)=(bJ e).set b x:=by
 simp only [bJ,ES.set,St.set,St.mk.injEq,and_true]
 funext y; rw [T.tf]
theorem BS (e:ES) (b:Nat):bJ (e.del b)=(bJ e).del b:=by
 simp only [bJ,ES.del,St.del,St.mk.injEq,and_true]
 funext y; rw [T.tf]
theorem RO (e:ES) (b:Option Nat):bJ (e.sh b)=(bJ e).sh b:=by
 cases b with
 | none=>rfl
 | some b=>exact BS e b
theorem qX (e:ES) (x:Live):bJ (e.new x)=(bJ e).new e.n x:=by
 simp only [bJ,ES.new,St.new,St.mk.injEq,Option.map_some,and_true]
 funext y; rw [T.tf]
def Sn:Fn->Fn->Bool
 | .func a,.func b=>Nat.beq a b
 | _,_=>false
theorem Wl {a b:Fn} (h:Sn a b=true):a=b:=by
 cases a <;> cases b <;> simp only [Sn,bC] at h
 rw [eQ h]
def Ld:nY->nY->Bool
 | .full,.full=>true
 | .own a,.own b=>Nat.beq a b
 | .kV,.kV=>true
 | _,_=>false
theorem Sm {a b:nY} (h:Ld a b=true):a=b:=by
 cases a <;> cases b <;> simp only [Ld,bC] at h <;> first
  | rfl
  | rw [eQ h]
mutual
def jl:AV->AV->Bool
 | .bool a,.bool b=>a == b
 | .int k a,.int k' b=>decide (k=k') && decide (a=b)
 | .str a,.str b=>decide (a=b)
 | .bU,.bU | .aA,.aA | .lr,.lr | .ez,.ez | .dv,.dv=>true
 | .box a i,.box b j=>Nat.beq a b && Nat.beq i j
 | .cU l,.cU l'=>oW l l'
 | .vec n c l,.vec n' c' l'=>Nat.beq n n' && Ld c c' && oW l l'
 | .ms b o n z e,.ms b' o' n' z' e'=>Nat.beq b b' && Nat.beq o o' && Nat.beq n n' && Nat.beq z z' && Nat.beq e e'
 | .mp a,.mp b=>Nat.beq a b
 | .gb ks vs,.gb ks' vs'=>oW ks ks' && oW vs vs'
 | .func f a b,.func f' a' b'=>Sn f f' && oW a a' && oW b b'
 | .iface t v,.iface t' v'=>Nat.beq t t' && jl v v'
 | .agg l,.agg l'=>oW l l'
 | .aG l,.aG l'=>oW l l'
 | .qI a,.qI b=>Nat.beq a b
 | .it a,.it b=>Nat.beq a b
 | .any,.any=>true
 | _,_=>false
def oW:List AV->List AV->Bool
 | [],[]=>true
 | x::xs,y::ys=>jl x y && oW xs ys
 | _,_=>false
end
mutual
theorem vE:∀ {a b:AV},jl a b=true->a=b
 | .bool a,b,h=>by cases b <;> simp only [jl,bC] at h; simpa using h
 | .int k a,b,h=>by cases b <;> simp only [jl,bC] at h; simpa using h
 | .str a,b,h=>by cases b <;> simp only [jl,bC] at h; simpa using h
 | .bU,b,h=>by cases b <;> simp only [jl,bC] at h; rfl
 | .aA,b,h=>by cases b <;> simp only [jl,bC] at h; rfl
 | .lr,b,h=>by cases b <;> simp only [jl,bC] at h; rfl
 | .ez,b,h=>by cases b <;> simp only [jl,bC] at h; rfl
 | .dv,b,h=>by cases b <;> simp only [jl,bC] at h; rfl
 | .box a i,b,h=>by cases b <;> simp only [jl,bC,bX] at h; rw [eQ h.1,eQ h.2]
 | .cU l,b,h=>by cases b <;> simp only [jl,bC] at h; rw [kh h]
 | .vec n c l,b,h=>by cases b <;> simp only [jl,bC,bX] at h; rw [eQ h.1.1,Sm h.1.2,kh h.2]
 | .ms b o n z e,b',h=>by
   cases b' <;> simp only [jl,bC,bX] at h
   rw [eQ h.1.1.1.1,eQ h.1.1.1.2,eQ h.1.1.2,eQ h.1.2,eQ h.2]
 | .mp a,b,h=>by cases b <;> simp only [jl,bC] at h; rw [eQ h]
 | .gb ks vs,b,h=>by cases b <;> simp only [jl,bC,bX] at h; rw [kh h.1,kh h.2]
 | .func f a b,b',h=>by cases b' <;> simp only [jl,bC,bX] at h; rw [Wl h.1.1,kh h.1.2,kh h.2]
 | .iface t v,b,h=>by cases b <;> simp only [jl,bC,bX] at h; rw [eQ h.1,vE h.2]
 | .agg l,b,h=>by cases b <;> simp only [jl,bC] at h; rw [kh h]
 | .aG l,b,h=>by cases b <;> simp only [jl,bC] at h; rw [kh h]
 | .qI a,b,h=>by cases b <;> simp only [jl,bC] at h; rw [eQ h]
 | .it a,b,h=>by cases b <;> simp only [jl,bC] at h; rw [eQ h]
 | .any,b,h=>by cases b <;> simp only [jl,bC] at h; rfl
theorem kh:∀ {a b:List AV},oW a b=true->a=b
 | [],b,h=>by cases b <;> simp only [oW,bC] at h; rfl
 | x::xs,b,h=>by cases b <;> simp only [oW,bC,bX] at h; rw [vE h.1,kh h.2]
end
def GM:Option Live->Option Live->Bool
 | some (.box l),some (.box l')=>oW l l'
 | some (.mp a b),some (.mp a' b')=>oW a a' && oW b b'
 | _,_=>false
theorem Nf {a b:Option Live} (h:GM a b=true):a=b:=by
 unfold GM at h
 split at h
 . rw [kh h]
 . simp only [bX] at h; rw [kh h.1,kh h.2]
 . cases h
end Go.Rip
namespace Go.Rip
open Go.RowKit
structure iO where
 C:cT
 mu:Nat->List Nat
 pf:Nat->Bool
 sm:Nat->List AV->Option AV
 VN:Nat->List AV->ES->Option (AV × ES)
 tr:Nat->Bool
 ft:TypeId
 ins:Nat->Nat->Option (List Row × List (Bool × Nat) × nI × List (Bool × Nat)):=fun _ _=>none
abbrev KR:=cO->ES->Bool
abbrev KC:=Ex->T AV->ES->Bool
abbrev sM:=Nat->List AV->ES->KR->Bool
def rK (k kp:AV->ES->Bool):KR
 | .ret v,e=>k v e
 | .panic v,e=>kp v e
def Av (cf cy:sM) (e:ES):ay->(AV->ES->Bool)->(AV->ES->Bool)->Bool
 | .val v,k,_=>k v e
 | .ir v b x,k,_=>k v (e.set b x)
 | .new kd del x,k,_=>k (kd.at e.n) ((e.sh del).new x)
 | .lh b l,k,_=>l.all fun p=>k p.1 (e.set b p.2)
 | .enter f args,k,kp=>cf f args e (rK k kp)
 | .yield o args,k,kp=>cy o args e (rK k kp)
 | .panic v,_,kp=>kp v e
 | @ay.cond p d r,k,kp=>(@decide p d) && Av cf cy e r k kp
 | .bad,_,_=>false
def Ci (V:iO) (cf cy:sM) (mu:List Nat) (ops:Array Oper):List Oper->T AV->ES->(T AV->ES->Bool)->(AV->ES->Bool)->Bool
 | [],ρ,e,k,_=>k ρ e
 | o::rest,ρ,e,k,kp=>match ig ops (fw ρ) o.guard with
   | .bool true=>Av cf cy e (jH V.C (nM mu o) o.op (fw ρ) (bJ e)) (fun v e'=>Ci V cf cy mu ops rest (zz ρ o.dst v) e' k kp) kp
   | .bool false=>Ci V cf cy mu ops rest (zz ρ o.dst (.aG [])) e k kp
   | _=>false
def KV (V:iO):ay->Option AV
 | .val v=>some v
 | @ay.cond p d r=>cond (@decide p d) (KV V r) none
 | .enter f args=>V.sm f args
 | _=>none
def Mp (B:List Nat) (e0 e:ES):Bool:=B.all fun b=>GM (e.live.get b) (e0.live.get b)
def DL (C:cT) (B:List Nat) (ρ:Env) (op:Op):Bool:=op.operands.toList.all fun x=>(dK (ρ.ev C x)).all fun b=>B.any fun c=>Nat.beq c b
def o8 (V:iO) (cf cy:sM) (mu:List Nat) (ops:Array Oper) (B:List Nat) (e0:ES):List (Bool × Nat)->T AV->ES->(T AV->ES->Bool)->(AV->ES->Bool)->Bool
 | [],ρ,e,k,_=>k ρ e
 | (true,i)::r,ρ,e,k,kp=>match ops[i]? with
   | none=>false
   | some o=>match ig ops (fw ρ) o.guard with
     | .bool true=>quiet o.op && (!oJ o.op || DL V.C B (fw ρ) o.op) && (match KV V (jH V.C (nM mu o) o.op (fw ρ) (bJ e0)) with
       | some v=>o8 V cf cy mu ops B e0 r (zz ρ o.dst v) e k kp
       | none=>false)
     | .bool false=>o8 V cf cy mu ops B e0 r (zz ρ o.dst (.aG [])) e k kp
     | _=>false
 | (false,i)::r,ρ,e,k,kp=>match ops[i]? with
   | none=>false
   | some o=>match ig ops (fw ρ) o.guard with
     | .bool true=>Av cf cy e (jH V.C (nM mu o) o.op (fw ρ) (bJ e)) (fun v e'=>(Mp B e0 e' || rJ ops i) && o8 V cf cy mu ops B e0 r (zz ρ o.dst v) e' k kp) kp
     | .bool false=>o8 V cf cy mu ops B e0 r (zz ρ o.dst (.aG [])) e k kp
     | _=>false
def OT (V:iO) (o:Oper):Bool:=match o.op with
 | .call c=>match c.callee with
   | .value (.func f)=>V.pf f
   | .value _=>false
   | _=>quiet o.op
 | op=>quiet op
def zm (V:iO) (ops:Array Oper):Nat->Array Bool->List (Bool × Nat)
 | 0,_=>[]
 | n+1,listed=>match (Region.ready .any ops listed).find? fun i=>match ops[i]? with | some o=>OT V o | none=>false with
   | some i=>(true,i)::zm V ops n (listed.setIfInBounds i true)
   | none=>match Region.ready .any ops listed with
     | i::_=>(false,i)::zm V ops n (listed.setIfInBounds i true)
     | []=>[]
def preB (V:iO) (mu:List Nat) (e0:ES):List Oper->T AV->List Nat->List Nat
 | [],_,B=>B
 | o::r,ρ,B=>preB V mu e0 r (zz ρ o.dst (cond (OT V o) ((KV V (jH V.C (nM mu o) o.op (fw ρ) (bJ e0))).getD .any) .any)) (cond (oJ o.op) (o.op.operands.toList.flatMap (fun x=>dK ((fw ρ).ev V.C x))++B) B)
def LO (P:Program) (ty:TypeId) (p:AV) (U:St):Option AV:=match uz P ty p U with
 | .val v=>some v
 | @ay.cond q d (.val v)=>cond (@decide q d) (some v) none
 | _=>none
def BN (P:Program) (ρ:Env) (U:St):List ResultVar->Option (List AV)
 | []=>some []
 | .tmp t::rs=>(BN P ρ U rs).map fun vs=>ρ.get t::vs
 | .cell t ty::rs=>match LO P ty (ρ.get t) U with
   | some v=>(BN P ρ U rs).map fun vs=>v::vs
   | none=>none
abbrev ue:=Nat->List Nat->Nat->Ro->Code->T AV->ES->KC->Bool
def Sh (P:Program) (fn:Func) (k:KR):KC:=fun ex ρ e=>match ex with
 | .normal | .ret=>match BN P (fw ρ) (bJ e) fn.results.toList with
   | some vs=>k (.ret (vi vs)) e
   | none=>false
 | .panic x=>k (.panic x) e
 | .exit _=>false
def Iu (ft:TypeId) (a:Nat) (k:KR):KR
 | .ret v,e=>match (bJ e).box a,(bJ e).box (a+1),(bJ e).box (a+2) with
   | some [_],some [_],some [_]=>v.scalar && k (.ret (.aG [v,.int .i64 0,.bool true])) (((e.set a (.box [v])).set (a+1) (.box [.int .i64 0])).set (a+2) (.box [.bool true]))
   | _,_,_=>false
 | .panic x,e=>match x,(bJ e).box a,(bJ e).box (a+1),(bJ e).box (a+2) with
   | .iface t (.agg [.int .i64 at_]),some [_],some [_],some [_]=>Nat.beq t ft && k (.ret (.aG [.bU,.int .i64 at_,.bool false])) ((((e.new (.box [.int .i64 at_])).set a (.box [.bU])).set (a+1) (.box [.int .i64 at_])).set (a+2) (.box [.bool false]))
   | _,_,_,_=>false
def F0 (V:iO) (ev:ue):sM:=fun f args e k =>
 match V.sm f args with
 | some x=>k (.ret x) e
 | none=>match V.VN f args e with
   | some (x,e')=>k (.ret x) e'
   | none=>match V.C.P.funcs[f]? with
     | some fn=>match fn.body with
       | some c=>Nat.ble args.length fn.ntmps && ev fn.ntmps (V.mu f) f .fn c (T.KB args 0 .e) e (Sh V.C.P fn k)
       | none=>false
     | none=>false
def aaX (e:ES):ES:=((e.new (.box [.bU])).new (.box [.int .i64 0])).new (.box [.bool false])
def sP (V:iO) (ev:ue):sM:=fun f args e k =>
 cond (V.tr f) (match args with
  | [_,.func (.func g) first cap]=>gj V.C.P g && F0 V ev g (first++cap) (aaX e) (Iu V.ft e.n k)
  | _=>false) (F0 V ev f args e k)
def endRound (o:Nat) (k:KR):KC:=fun ex _ e=>match (bJ e).loop o with
 | some L=>match ex with
   | .normal=>k (.ret (.bool true)) (e.set o (.loop { L with state:=.ready,fM:=none }))
   | .ret=>k (.ret (.bool false)) (e.set o (.loop { L with state:=.done,fM:=some .ret }))
   | .exit id=>k (.ret (.bool false)) (e.set o (.loop { L with state:=.done,fM:=some (.exit id) }))
   | .panic _=>false
 | none=>false
def isReady:LoopState->Bool
 | .ready=>true
 | _=>false
def Oa:LoopState->Bool
 | .busy=>true
 | _=>false
def qY (f:Nat->AV):Nat->T AV->T AV
 | 0,t=>t
 | n+1,t=>qY f n (t.set n (some (f n)))
def wB (V:iO) (ev:ue):sM:=fun o args e k =>
 match (bJ e).loop o with
 | some L=>Nat.beq args.length L.params.size && L.params.toList.all (fun t=>Nat.blt t L.nt) &&
   ev L.nt (V.mu L.tag) L.tag (.round o) L.assign (qY (xz L.ρ L.params.toList args) L.nt .e) e (fun ex ρ e=>match ex with
    | .normal=>match (bJ e).loop o with
      | some L'=>isReady L'.state && ev L.nt (V.mu L.tag) L.tag (.round o) L.body ρ (e.set o (.loop { L' with state:=.busy })) (endRound o k)
      | none=>false
    | _=>false)
 | none=>false
def GL (o:Nat) (ρ:T AV) (k:KC):KR
 | .ret _,e=>match (bJ e).loop o with
   | some L=>!Oa L.state && (match L.fM with
     | none=>k .normal ρ (e.del o)
     | some .ret=>k .ret ρ (e.del o)
     | some (.exit id)=>k (.exit id) ρ (e.del o)
     | _=>false)
   | none=>false
 | .panic x,e=>k (.panic x) .e e
def SX (V:iO) (ops:Array Oper) (B:List Nat) (I:nI) (ρ:T AV) (e:ES) (k:T AV->ES->Bool):Bool:=match (fw ρ).get I.m with
 | .mp id=>(match (bJ e).mp id with | some ([],[])=>true | _=>false) && (B.all (fun b=>!Nat.beq b id) && k ρ (e.set id (.mp (pe I.kk (nB V.C ops (fw ρ) I) ([],[])).1 (pe I.kk (nB V.C ops (fw ρ) I) ([],[])).2)))
 | _=>false
def nP (V:iO):Nat->ue
 | 0=>fun _ _ _ _ _ _ _ _=>false
 | n+1=>fun nt mu tag ro c ρ e k =>
   match c with
   | .skip=>k .normal ρ e
   | .exit id=>k (.exit id) ρ e
   | .ret=>k .ret ρ e
   | .seq a b=>nP V n nt mu tag ro a ρ e fun ex ρ e=>match ex with
     | .normal=>nP V n nt mu tag ro b ρ e k
     | ex=>k ex ρ e
   | .cond x a b=>match (fw ρ).ev V.C x with
     | .bool true=>nP V n nt mu tag ro a ρ e k
     | .bool false=>nP V n nt mu tag ro b ρ e k
     | _=>false
   | .block id a=>nP V n nt mu tag ro a ρ e fun ex ρ e=>match ex with
     | .exit A0=>cond (Nat.beq A0 id) (k .normal ρ e) (k (.exit A0) ρ e)
     | ex=>k ex ρ e
   | .loop a=>nP V n nt mu tag ro a ρ e fun ex ρ e=>match ex with
     | .normal=>nP V n nt mu tag ro (.loop a) ρ e k
     | ex=>k ex ρ e
   | .region _ ops false=>kQ nt ops && Ci V (sP V (nP V n)) (wB V (nP V n)) mu ops ops.toList ρ e (fun ρ e=>k .normal ρ e) (fun x e=>k (.panic x) .e e)
   | .region id ops true=>match V.ins tag id with
     | none=>kQ nt ops && (iD ops (zm V ops ops.size (Array.replicate ops.size false)) (Array.replicate ops.size false) && ((zm V ops ops.size (Array.replicate ops.size false)).length == ops.size)) &&
     o8 V (sP V (nP V n)) (wB V (nP V n)) mu ops (preB V mu e ops.toList ρ []) e (zm V ops ops.size (Array.replicate ops.size false)) ρ e (fun ρ e=>k .normal ρ e) (fun x e=>k (.panic x) .e e)
     | some (rows,dm,I,post)=>kQ nt ops && (BF V.C.P ops rows dm I post && o8 V (sP V (nP V n)) (wB V (nP V n)) mu ops (preB V mu e ops.toList ρ []) e dm ρ e (fun dY e'=>SX V ops (preB V mu e ops.toList ρ []) I dY e' (fun dY e'=>o8 V (sP V (nP V n)) (wB V (nP V n)) mu ops (preB V mu e ops.toList ρ []) e post dY e' (fun ρ e=>k .normal ρ e) (fun x e=>k (.panic x) .e e))) (fun x e=>k (.panic x) .e e))
   | .rangeFunc f ps assign body=>match ro,(fw ρ).ev V.C f with
     | .fn,.func (.func tn) first cap=>gj V.C.P tn && sP V (nP V n) tn (first++[.qI e.n]++cap) (e.new (.loop ⟨(fw ρ).get,nt,ps,assign,body,.ready,none,tag⟩)) (GL e.n ρ k)
     | _,_=>false
   | _=>false
def kR (k:KR):cO->St->Prop:=fun r U=>∃ e,U=bJ e/\k r e=true
def kA (k:AV->ES->Bool):AV->St->Prop:=fun v U=>∃ e,U=bJ e/\k v e=true
def kE (k:T AV->ES->Bool):Env->St->Prop:=fun ρ U=>∃ t e,ρ=fw t/\U=bJ e/\k t e=true
def kC (k:KC):Ex->Env->St->Prop
 | .panic x,_,U=>∃ e,U=bJ e/\k (.panic x) .e e=true
 | ex,ρ,U=>∃ t e,ρ=fw t/\U=bJ e/\k ex t e=true
def Iv (ft:TypeId) (a b c:Nat) (R:cO->St->Prop):cO->St->Prop
 | .ret v,U=>v.scalar=true/\(∃ x,U.box a=some [x])/\(∃ x,U.box b=some [x])/\(∃ x,U.box c=some [x])/\R (.ret (.aG [v,.int .i64 0,.bool true])) (((U.cG a [v]).cG b [.int .i64 0]).cG c [.bool true])
 | .panic x,U=>∃ at_,x=.iface ft (.agg [.int .i64 at_])/\(∃ x,U.box a=some [x])/\(∃ x,U.box b=some [x])/\(∃ x,U.box c=some [x]) /\
    ∀ q,U.dw q->R (.ret (.aG [.bU,.int .i64 at_,.bool false])) ((((U.new q (.box [.int .i64 at_])).cG a [.bU]).cG b [.int .i64 at_]).cG c [.bool false])
def JQ (C:cT) (ft:TypeId) (f:Nat):Prop:=∀ r g first cap U R,gj C.P g=true ->
 (∀ a b c,U.dw a->(U.new a (.box [.bU])).dw b->((U.new a (.box [.bU])).new b (.box [.int .i64 0])).dw c ->
   ag C g (first++cap) (((U.new a (.box [.bU])).new b (.box [.int .i64 0])).new c (.box [.bool false])) (Iv ft a b c R))->ag C f [r,.func (.func g) first cap] U R
structure qJ (V:iO):Prop where
 sm:∀ f args x,V.sm f args=some x->Pure V.C f args x
 VN:∀ f args e x e',V.VN f args e=some (x,e')->∀ R,R (.ret x) (bJ e')->ag V.C f args (bJ e) R
 tr:∀ f,V.tr f=true->JQ V.C V.ft f
 mixed:V.C.P.follows .mixedOrders=true
def yu (V:iO) (cf:sM):Prop:=∀ f args e k,cf f args e k=true->ag V.C f args (bJ e) (kR k)
def Ad (V:iO) (cy:sM):Prop:=∀ o args e k,cy o args e k=true->ma V.C o args (bJ e) (kR k)
def vu (V:iO) (ev:ue):Prop:=∀ nt mu tag ro c ρ e k,ev nt mu tag ro c ρ e k=true->bI V.C nt ro c (kC k) (fw ρ) (bJ e)
theorem td {e:ES} {b:Nat} (h:(bJ e).dw b):b=e.n:=h.2 _ rfl
theorem M8 (e:ES) (d:Option Nat):(e.sh d).n=e.n:=by cases d <;> rfl
section
variable {V:iO} {cf cy:sM}
theorem BP (hf:yu V cf) (hy:Ad V cy) {e:ES} {k kp:AV->ES->Bool}:∀ (r:ay),Av cf cy e r k kp=true->r.wp V.C (bJ e) (kA k) (kA kp)
 | .val v,h=>⟨e,rfl,h⟩
 | .ir v b x,h=>⟨e.set b x,(mS e b x).symm,h⟩
 | .new kd del x,h=>fun b hb=>by
   rw [<- RO] at hb ⊢
   have:=td hb
   rw [M8] at this
   subst this
   exact ⟨(e.sh del).new x,by rw [qX,M8],h⟩
 | .lh b l,h=>fun p hp=>by
   simp only [Av,ep] at h
   exact ⟨e.set b p.2,(mS e b p.2).symm,h p hp⟩
 | .enter f args,h=>(hf f args e _ h).mono fun r U hr=>by cases r <;> exact hr
 | .yield o args,h=>(hy o args e _ h).mono fun r U hr=>by cases r <;> exact hr
 | .panic v,h=>⟨e,rfl,h⟩
 | @ay.cond p d r,h=>by
   simp only [Av,bX] at h
   exact ⟨@of_decide_eq_true p d h.1,BP hf hy r h.2⟩
 | .bad,h=>by cases h
theorem Wr {ops:Array Oper} {B:List Nat} {I:nI} {k:T AV->ES->Bool} (ρ:T AV) (e:ES) (h:SX V ops B I ρ e k=true):Lz V.C ops B I (kE k) (fw ρ) (bJ e):=by
 unfold SX at h
 split at h
 . rename_i id hid
   simp only [bX,ep,Bool.not_eq_true'] at h
   obtain ⟨h1,h2,h3⟩:=h
   split at h1
   . rename_i Hg
     refine ⟨id,hid,Hg,fun hm=>?_,ρ,_,rfl,(mS e id _).symm,h3⟩
     have:=h2 id hm
     simp at this
   . cases h1
 . cases h
theorem Bq (hf:yu V cf) (hy:Ad V cy) {mu:List Nat} {ops:Array Oper} {k:T AV->ES->Bool} {kp:AV->ES->Bool}:∀ (l:List Oper) (ρ:T AV) (e:ES),Ci V cf cy mu ops l ρ e k kp=true ->
 o0 V.C mu ops l (fw ρ) (bJ e) (kE k) (kA kp)
 | [],ρ,e,h=>⟨ρ,e,rfl,rfl,h⟩
 | o::rest,ρ,e,h=>by
   simp only [Ci] at h
   simp only [o0]
   split at h
   . rename_i hg
     rw [hg]
     refine ⟨fun _=>?_,fun h=>(by cases h)⟩
     refine ay.wp_mono ?_ _ (BP hf hy _ h)
     rintro v U ⟨e',rfl,hk⟩
     have:=Bq hf hy rest _ e' hk
     rw [pP] at this
     exact this
   . rename_i hg
     rw [hg]
     refine ⟨fun h=>(by cases h),fun _=>?_⟩
     have:=Bq hf hy rest _ e h
     rw [pP] at this
     exact this
   . cases h
theorem R2 (hV:qJ V):∀ (r:ay) (v:AV),KV V r=some v->r.yv V.C v
 | .val u,v,h=>by simp only [KV,iW] at h; exact h
 | @ay.cond p d r,v,h=>by
   simp only [KV] at h
   cases hd:@decide p d with
   | false=>rw [hd] at h; cases h
   | true=>rw [hd] at h; exact ⟨@of_decide_eq_true p d hd,R2 hV r v h⟩
 | .enter f args,v,h=>hV.sm f args v h
 | .ir _ _ _,v,h=>by cases h
 | .new _ _ _,v,h=>by cases h
 | .lh _ _,v,h=>by cases h
 | .yield _ _,v,h=>by cases h
 | .panic _,v,h=>by cases h
 | .bad,v,h=>by cases h
theorem Tn {B:List Nat} {e0 e:ES} (h:Mp B e0 e=true):cL B (bJ e0) (bJ e):=fun b hb=>by
 unfold Mp at h
 rw [ep] at h
 exact Nf (h b hb)
theorem Lr {C:cT} {B:List Nat} {ρ:Env} {op:Op} (h:DL C B ρ op=true):∀ x ∈ op.operands.toList,∀ b ∈ dK (ρ.ev C x),b ∈ B:=fun x hx b hb=>by
 unfold DL at h
 rw [ep] at h
 have:=h x hx
 rw [ep] at this
 have:=this b hb
 rw [List.any_eq_true] at this
 obtain ⟨c,hc,he⟩:=this
 rw [<- eQ he]; exact hc
theorem n8 (hV:qJ V) (hf:yu V cf) (hy:Ad V cy) {mu:List Nat} {ops:Array Oper} {B:List Nat} {e0:ES} {k:T AV->ES->Bool} {kp:AV->ES->Bool}:∀ (l:List (Bool × Nat)) (ρ:T AV) (e:ES),o8 V cf cy mu ops B e0 l ρ e k kp=true ->
 lu V.C mu ops B (bJ e0) (kE k) (kA kp) l (fw ρ) (bJ e)
 | [],ρ,e,h=>⟨ρ,e,rfl,rfl,h⟩
 | (true,i)::r,ρ,e,h=>by
   simp only [o8] at h
   split at h
   . cases h
   . rename_i o ho
     split at h
     . rename_i hg
       simp only [bX,jI,Bool.not_eq_true'] at h
       obtain ⟨⟨h1,h2⟩,h3⟩:=h
       split at h3
       . rename_i v hv
         refine ⟨o,v,ho,.inl ⟨hg,h1,fun Hp=>?_,R2 hV _ _ hv⟩,?_⟩
         . rcases h2 with h2 | h2
           . rw [Hp] at h2; cases h2
           . exact Lr h2
         . have:=n8 hV hf hy r _ e h3
           rw [pP] at this
           exact this
       . cases h3
     . rename_i hg
       refine ⟨o,.aG [],ho,.inr ⟨hg,rfl⟩,?_⟩
       have:=n8 hV hf hy r _ e h
       rw [pP] at this
       exact this
     . cases h
 | (false,i)::r,ρ,e,h=>by
   simp only [o8] at h
   simp only [lu,kT]
   split at h
   . cases h
   . rename_i o ho
     try rw [ho]
     try dsimp only
     split at h
     . rename_i hg
       rw [hg]
       refine ⟨fun _=>?_,fun h=>(by cases h)⟩
       refine ay.wp_mono ?_ _ (BP hf hy _ h)
       rintro v U ⟨e',rfl,hk⟩
       simp only [bX] at hk
       refine ⟨?_,?_⟩
       . rw [jI] at hk
         rcases hk.1 with h | h
         . exact .inr (Tn h)
         . exact .inl (Ww h)
       have:=n8 hV hf hy r _ e' hk.2
       rw [pP] at this
       exact this
     . rename_i hg
       rw [hg]
       refine ⟨fun h=>(by cases h),fun _=>?_⟩
       have:=n8 hV hf hy r _ e h
       rw [pP] at this
       exact this
     . cases h
theorem uE {C:cT} {mu:List Nat} {ops:Array Oper} {K K':Env->St->Prop} {Kp ya:AV->St->Prop} (hk:∀ ρ U,K ρ U->K' ρ U) (hp:∀ v U,Kp v U->ya v U):∀ (l:List Oper) {ρ:Env} {U:St},o0 C mu ops l ρ U K Kp->o0 C mu ops l ρ U K' ya
 | [],_,_,h=>hk _ _ h
 | o::rest,ρ,U,h=>by
   simp only [o0] at h ⊢
   have wpp:∀ (r:ay) {U:St} {X:AV->St->Prop},r.wp C U X Kp->r.wp C U X ya:=fun r=>by
    induction r with
    | val _=>exact fun h=>h
    | ir _ _ _=>exact fun h=>h
    | new _ _ _=>exact fun h=>h
    | lh _ _=>exact fun h=>h
    | enter f args=>exact fun h=>h.mono fun r U hr=>by cases r <;> first | exact hr | exact hp _ _ hr
    | yield o args=>exact fun h=>h.mono fun r U hr=>by cases r <;> first | exact hr | exact hp _ _ hr
    | panic v=>exact fun h=>hp _ _ h
    | cond p r ih=>exact fun h=>⟨h.1,ih h.2⟩
    | bad=>exact fun h=>h
   cases hg:ig ops ρ o.guard <;> rw [hg] at h <;> simp only [ao] at h ⊢
   exact ⟨fun e=>ay.wp_mono (fun v U hv=>uE hk hp rest hv) _ (wpp _ (h.1 e)),fun e=>uE hk hp rest (h.2 e)⟩
theorem S4 {P:Program} {ty:TypeId} {p v:AV} {U:St} (h:LO P ty p U=some v) {k:AV->Prop} (hk:k v):Ap P ty p U k:=by
 unfold LO at h
 unfold Ap
 split at h
 . rename_i u hu
   cases h
   first | exact hk | (rw [hu]; exact hk)
 . rename_i q d u hu
   cases hd:@decide q d with
   | false=>rw [hd] at h; cases h
   | true =>
     rw [hd] at h; cases h
     first | exact ⟨@of_decide_eq_true q d hd,hk⟩ | (rw [hu]; exact ⟨@of_decide_eq_true q d hd,hk⟩)
 . cases h
theorem Au {P:Program} {ρ:Env} {U:St}:∀ (rs:List ResultVar) (vs:List AV) (k:List AV->Prop),BN P ρ U rs=some vs->k vs->vd P ρ U rs k
 | [],vs,k,h,hk=>by simp only [BN,iW] at h; subst h; exact hk
 | .tmp t::rs,vs,k,h,hk=>by
   simp only [BN,o1] at h
   obtain ⟨us,hu,rfl⟩:=h
   exact Au rs us _ hu hk
 | .cell t ty::rs,vs,k,h,hk=>by
   simp only [BN] at h
   split at h
   . rename_i v hv
     simp only [o1] at h
     obtain ⟨us,hu,rfl⟩:=h
     exact S4 hv (Au rs us _ hu hk)
   . cases h
theorem GB (hV:qJ V) {ev:ue} (he:vu V ev):yu V (F0 V ev):=fun f args e k h=>by
 simp only [F0] at h
 split at h
 . rename_i x hx
   exact hV.sm f args x hx _ _ ⟨e,rfl,h⟩
 . split at h
   . rename_i x e' hx
     exact hV.VN f args e x e' hx _ ⟨e',rfl,h⟩
   . split at h
     . rename_i fn hfn
       split at h
       . rename_i c hc
         simp only [bX] at h
         refine ag.KD hfn hc (Nat.le_of_ble_eq_true h.1) ?_
         have:=he _ _ _ _ _ _ _ _ h.2
         rw [Lc] at this
         refine this.mono ?_
         intro ex ρ U hc
         cases ex with
         | normal =>
           obtain ⟨t,e',rfl,rfl,hk⟩:=hc
           simp only [Sh] at hk
           split at hk
           . rename_i vs zb
             exact Au _ vs _ zb ⟨_,_,se.refl _ _,e',rfl,hk⟩
           . cases hk
         | ret =>
           obtain ⟨t,e',rfl,rfl,hk⟩:=hc
           simp only [Sh] at hk
           split at hk
           . rename_i vs zb
             exact Au _ vs _ zb ⟨_,_,se.refl _ _,e',rfl,hk⟩
           . cases hk
         | panic x =>
           obtain ⟨e',rfl,hk⟩:=hc
           exact ⟨e',rfl,hk⟩
         | exit id =>
           obtain ⟨t,e',rfl,rfl,hk⟩:=hc
           cases hk
       . cases h
     . cases h
theorem nE (e:ES) (b:Nat) (l:List AV):(bJ e).cG b l=bJ (e.set b (.box l)):=(mS e b _).symm
theorem GC (hV:qJ V) {ev:ue} (he:vu V ev):yu V (sP V ev):=fun f args e k h=>by
 simp only [sP] at h
 cases NS:V.tr f with
 | false=>rw [NS] at h; exact GB hV he f args e k h
 | true =>
   rw [NS] at h
   simp only [cond_true] at h
   split at h
   . rename_i r g first cap
     rw [bX] at h
     obtain ⟨tA,h⟩:=h
     refine hV.tr f NS r g first cap _ _ tA fun a b c ha hb hc=>?_
     have ea:=td ha
     subst ea
     rw [<- qX] at hb hc ⊢
     have eb:=td hb
     subst eb
     rw [<- qX] at hc ⊢
     have ec:=td hc
     subst ec
     rw [<- qX]
     refine (GB hV he g _ _ _ h).mono ?_
     rintro r U ⟨e',rfl,hk⟩
     cases r with
     | ret v =>
       simp only [Iu] at hk
       split at hk
       . rename_i x y z h1 h2 h3
         rw [bX] at hk
         refine ⟨hk.1,⟨x,h1⟩,⟨y,h2⟩,⟨z,h3⟩,?_⟩
         rw [nE,nE,nE]
         exact ⟨_,rfl,hk.2⟩
       . cases hk
     | panic x =>
       simp only [Iu] at hk
       split at hk
       . rename_i t at_ x y z h1 h2 h3
         simp only [bX] at hk
         have ht:=eQ hk.1
         subst ht
         refine ⟨at_,rfl,⟨x,h1⟩,⟨y,h2⟩,⟨z,h3⟩,fun q hq=>?_⟩
         have eq:=td hq
         subst eq
         rw [<- qX,nE,nE,nE]
         exact ⟨_,rfl,hk.2⟩
       . cases hk
   . cases h
theorem tV (f:Nat->AV):∀ (n:Nat) (t:T AV) (i:Nat),(qY f n t).get i=if i < n then some (f i) else t.get i
 | 0,t,i=>by simp [qY]
 | n+1,t,i=>by
   simp only [qY]
   rw [tV f n,T.tf]
   by_cases h:i < n
   . rw [if_pos h,if_pos (by omega)]
   . rw [if_neg h]
     by_cases e:i=n
     . subst e; simp
     . rw [if_neg e,if_neg (by omega)]
end
end Go.Rip
namespace Go.Rip
open Go.RowKit
theorem bI.env {C:cT} {nt:Nat} {ro:Ro} {c:Code} {Q:Ex->Env->St->Prop} {ρ dY:Env} {U:St} (h1:∀ t,t < nt->dY.get t=ρ.get t) (h2:∀ t,nt <= t->dY.get t=.aG []) (h:bI C nt ro c Q dY U):bI C nt ro c Q ρ U:=by
 intro g w a fr k1 k2 k3 k4 k5
 refine h g w a fr k1 k2 (fun t=>?_) k4 k5
 by_cases ht:t < nt
 . rw [h1 t ht]; exact k3 t
 . rw [h2 t (by omega)]
   have:a.tmps.getD t undef=undef:=by
    rw [Array.getD_eq_getD_getElem?,xD (by omega)]; rfl
   rw [this]; exact uJ
section
variable {V:iO}
theorem R1 (hV:qJ V) {ev:ue} (he:vu V ev):Ad V (wB V ev):=fun o args e k h=>by
 simp only [wB] at h
 split at h
 . rename_i L hL
   simp only [bX] at h
   obtain ⟨⟨h1,h2⟩,h3⟩:=h
   refine ma.HR hL (eQ h1) (fun t ht=>?_) ?_
   . rw [ep] at h2
     have:=h2 t ht
     simpa [Nat.blt_eq] using this
   . have h4:=he _ _ _ _ _ _ _ _ h3
     refine bI.env (dY:=fw (qY (xz L.ρ L.params.toList args) L.nt .e)) (fun t ht=>?_) (fun t ht=>?_) ?_
     . simp only [fw]; rw [tV,if_pos ht]; rfl
     . simp only [fw]; rw [tV,if_neg (by omega)]; rfl
     . refine h4.mono ?_
       intro ex ρ U hc
       cases ex with
       | normal =>
         obtain ⟨t,e',rfl,rfl,hk⟩:=hc
         dsimp only at hk
         split at hk
         . rename_i L' J6
           simp only [bX] at hk
           refine ⟨L',J6,?_,?_⟩
           . have:=hk.1
             cases hs:L'.state <;> rw [hs] at this <;> first
              | rfl
              | (simp [isReady] at this)
           . have h5:=he _ _ _ _ _ _ _ _ hk.2
             rw [mS] at h5
             refine h5.mono ?_
             intro ex ρ U AP
             cases ex with
             | normal =>
               obtain ⟨t',e2,rfl,rfl,iT⟩:=AP
               simp only [endRound] at iT
               split at iT
               . rename_i L2 Nu; exact ⟨L2,Nu,_,(mS _ _ _).symm,iT⟩
               . cases iT
             | ret =>
               obtain ⟨t',e2,rfl,rfl,iT⟩:=AP
               simp only [endRound] at iT
               split at iT
               . rename_i L2 Nu; exact ⟨L2,Nu,_,(mS _ _ _).symm,iT⟩
               . cases iT
             | exit id =>
               obtain ⟨t',e2,rfl,rfl,iT⟩:=AP
               simp only [endRound] at iT
               split at iT
               . rename_i L2 Nu; exact ⟨L2,Nu,_,(mS _ _ _).symm,iT⟩
               . cases iT
             | panic x =>
               obtain ⟨e2,rfl,iT⟩:=AP
               simp only [endRound] at iT
               split at iT <;> cases iT
         . cases hk
       | exit id=>obtain ⟨t,e',rfl,rfl,hk⟩:=hc; cases hk
       | ret=>obtain ⟨t,e',rfl,rfl,hk⟩:=hc; cases hk
       | panic x=>obtain ⟨e',rfl,hk⟩:=hc; cases hk
 . cases h
theorem So (hV:qJ V) (n:Nat) (ihs:∀ m,m < n->vu V (nP V m)):vu V (nP V n):=by
 cases n with
 | zero=>intro nt mu tag ro c ρ e k h; cases h
 | succ n =>
   intro nt mu tag ro c ρ e k h
   have ih:=ihs n (Nat.lt_succ_self n)
   have hf:=GC hV ih
   have hy:=R1 hV ih
   by_cases hl:∃ a,c=.loop a
   . obtain ⟨a,rfl⟩:=hl
     refine bI.loop (fun j ρ U=>j <= n+1/\∃ t e,ρ=fw t/\U=bJ e/\nP V j nt mu tag ro (.loop a) t e k=true) (n:=n+1) ⟨gE _,ρ,e,rfl,rfl,h⟩ ?_
     rintro j dY af ⟨hj,t,e',rfl,rfl,hk⟩
     cases j with
     | zero=>cases hk
     | succ j =>
       simp only [nP] at hk
       refine (ihs j (by omega) _ _ _ _ _ _ _ _ hk).mono ?_
       intro ex qF bg hc
       cases ex with
       | normal =>
         obtain ⟨t2,e2,rfl,rfl,iT⟩:=hc
         exact ⟨j,Nat.lt_succ_self j,by omega,t2,e2,rfl,rfl,iT⟩
       | exit id=>exact hc
       | ret=>exact hc
       | panic x=>exact hc
   simp only [nP] at h
   split at h
   . exact bI.skip ⟨ρ,e,rfl,rfl,h⟩
   . exact bI.exit ⟨ρ,e,rfl,rfl,h⟩
   . exact bI.ret ⟨ρ,e,rfl,rfl,h⟩
   . rename_i a b
     refine bI.seq ((ih _ _ _ _ _ _ _ _ h).mono ?_)
     intro ex dY af hc
     cases ex with
     | normal =>
       obtain ⟨t,e',rfl,rfl,hk⟩:=hc
       exact ih _ _ _ _ _ _ _ _ hk
     | exit id=>exact hc
     | ret=>exact hc
     | panic x=>exact hc
   . rename_i x a b
     split at h
     . rename_i hc; exact bI.ace hc (ih _ _ _ _ _ _ _ _ h)
     . rename_i hc; exact bI.acd hc (ih _ _ _ _ _ _ _ _ h)
     . cases h
   . rename_i id a
     refine bI.block ((ih _ _ _ _ _ _ _ _ h).mono ?_)
     intro ex dY af hc
     cases ex with
     | normal=>exact hc
     | exit A0 =>
       obtain ⟨t,e',rfl,rfl,hk⟩:=hc
       simp only [yF]
       dsimp only at hk
       split
       . rename_i hid
         subst hid
         rw [Nat.beq_refl,cond_true] at hk
         exact ⟨t,e',rfl,rfl,hk⟩
       . rename_i hid
         rw [zo hid,cond_false] at hk
         exact ⟨t,e',rfl,rfl,hk⟩
     | ret=>exact hc
     | panic x=>exact hc
   . rename_i a
     exact (hl ⟨a,rfl⟩).elim
   . rename_i id ops
     simp only [bX] at h
     refine bI.region mu h.1 (uE ?_ ?_ _ (Bq hf hy _ _ _ h.2))
     . rintro dY af ⟨t,e',rfl,rfl,hk⟩
       exact ⟨t,e',rfl,rfl,hk⟩
     . rintro v af ⟨e',rfl,hk⟩ dY
       exact ⟨e',rfl,hk⟩
   . rename_i id ops
     split at h
     . simp only [bX] at h
       refine bI.sW mu _ _ hV.mixed h.1.1 (by rw [bX]; exact h.1.2) (jB ?_ ?_ _ (n8 hV hf hy _ _ _ h.2))
       . rintro dY af ⟨t,e',rfl,rfl,hk⟩
         exact ⟨t,e',rfl,rfl,hk⟩
       . rintro v af ⟨e',rfl,hk⟩ dY
         exact ⟨e',rfl,hk⟩
     . rename_i rows dm I post _
       simp only [bX] at h
       have UL:∀ v U,kA (fun x e=>k (.panic x) .e e) v U->yb (kC k) v U:=by
        rintro v af ⟨e',rfl,hk⟩ dY
        exact ⟨e',rfl,hk⟩
       refine bI.O1 (B:=preB V mu e ops.toList ρ []) (mu:=mu) dm I post hV.mixed h.1 (Js h.2.1) (jB ?_ UL _ (n8 hV hf hy _ _ _ h.2.2))
       rintro dY af ⟨t,e',rfl,rfl,hk⟩
       obtain ⟨A0,q1,q2,q3,t2,e2,q4,q5,q6⟩:=Wr t e' hk
       refine ⟨A0,q1,q2,q3,?_⟩
       have key:=jB (K':=KQ (kC k)) (by
        rintro qF bg ⟨t3,e3,rfl,rfl,hk⟩
        exact ⟨t3,e3,rfl,rfl,hk⟩) UL _ (n8 hV hf hy _ _ _ q6)
       rw [<- q4,<- q5] at key
       exact key
   . rename_i f ps assign body
     split at h
     . rename_i tn first cap hfn
       simp only [bX] at h
       refine bI.rangeFunc tag hfn h.1 fun o ho=>?_
       have:=td ho
       subst this
       rw [<- qX]
       refine (hf _ _ _ _ h.2).mono ?_
       rintro r U ⟨e',rfl,hk⟩
       cases r with
       | ret v =>
         simp only [GL] at hk
         split at hk
         . rename_i L hL
           simp only [bX,Bool.not_eq_true'] at hk
           refine ⟨L,hL,fun hb=>?_,?_⟩
           . rw [hb] at hk; simp [Oa] at hk
           . have iT:=hk.2
             rw [<- BS]
             split at iT
             . rename_i hp; try rw [hp]
               exact ⟨_,_,rfl,rfl,iT⟩
             . rename_i hp; try rw [hp]
               exact ⟨_,_,rfl,rfl,iT⟩
             . rename_i id hp; try rw [hp]
               exact ⟨_,_,rfl,rfl,iT⟩
             . cases iT
         . cases hk
       | panic x=>exact ⟨e',rfl,hk⟩
     . cases h
   . cases h
theorem Ze (hV:qJ V) (n:Nat):vu V (nP V n):=by
 induction n using Nat.strongRecOn with
 | _ n ih=>exact So hV n ih
theorem Zf {V:iO} (hV:qJ V) (n f:Nat) (args:List AV) (e:ES) (k:KR) (h:sP V (nP V n) f args e k=true):ag V.C f args (bJ e) (kR k):=GC hV (Ze hV n) f args e k h
end
end Go.Rip
namespace Go.Rip
open Go.RowKit
mutual
def closed:AV->Bool
 | .box _ _ | .ms _ _ _ _ _ | .mp _ | .qI _ | .it _=>false
 | .vec _ (.own _) _=>false
 | .vec _ _ l=>cK l
 | .cU l=>cK l
 | .gb ks vs=>cK ks && cK vs
 | .func _ a b=>cK a && cK b
 | .iface _ v=>closed v
 | .agg l=>cK l
 | .aG l=>cK l
 | _=>true
def cK:List AV->Bool
 | []=>true
 | x::xs=>closed x && cK xs
end
mutual
theorem aE.closed {g g':Gh} (hi:∀ b o x,g.cC b o=some x->g'.cC b o=some x) (hm:∀ b x,g.cj b=some x->g'.cj b=some x):∀ (x:AV) (v:Value),closed x=true->aE g x v->aE g' x v
 | .bool _,_,_,hr=>hr
 | .int _ _,_,_,hr=>hr
 | .str _,_,_,hr=>hr
 | .bU,_,_,hr=>hr
 | .aA,_,_,hr=>hr
 | .lr,_,_,hr=>hr
 | .ez,_,_,hr=>hr
 | .dv,_,_,hr=>hr
 | .box _ _,_,hc,_=>by cases hc
 | .ms _ _ _ _ _,_,hc,_=>by cases hc
 | .mp _,_,hc,_=>by cases hc
 | .qI _,_,hc,_=>by cases hc
 | .it _,_,hc,_=>by cases hc
 | .cU l,_,hc,hr=>by
   simp only [aE] at hr ⊢
   obtain ⟨aN,off,vs,hv,h1,h2⟩:=hr
   exact ⟨aN,off,vs,hv,fun i u hu=>hi _ _ _ (h1 i u hu),aH.closed hi hm l vs hc h2⟩
 | .vec n cap l,_,hc,hr=>by
   simp only [aE] at hr ⊢
   obtain ⟨aN,off,c,vs,hv,h1,h2,h3,h4,h5⟩:=hr
   cases cap with
   | own τ=>cases hc
   | full=>exact ⟨aN,off,c,vs,hv,h1,h2,h3,fun i u hu=>hi _ _ _ (h4 i u hu),aH.closed hi hm l vs hc h5⟩
   | kV=>exact ⟨aN,off,c,vs,hv,h1,h2,trivial,fun i u hu=>hi _ _ _ (h4 i u hu),aH.closed hi hm l vs hc h5⟩
 | .gb ks vs,_,hc,hr=>by
   simp only [aE] at hr ⊢
   simp only [Go.Rip.closed,bX] at hc
   obtain ⟨r,es,c,l,hv,he,hp,hs,h1,h2⟩:=hr
   exact ⟨r,es,c,l,hv,hm _ _ he,hp,hs,aH.closed hi hm ks _ hc.1 h1,aH.closed hi hm vs _ hc.2 h2⟩
 | .func fn first captured,_,hc,hr=>by
   simp only [aE] at hr ⊢
   simp only [Go.Rip.closed,bX] at hc
   obtain ⟨fs,cs,hv,h1,h2⟩:=hr
   exact ⟨fs,cs,hv,aH.closed hi hm first _ hc.1 h1,aH.closed hi hm captured _ hc.2 h2⟩
 | .iface t x,_,hc,hr=>by
   simp only [aE] at hr ⊢
   obtain ⟨u,hv,h1⟩:=hr
   exact ⟨u,hv,aE.closed hi hm x _ hc h1⟩
 | .agg l,_,hc,hr=>by
   simp only [aE] at hr ⊢
   obtain ⟨vs,hv,h0,h1⟩:=hr
   exact ⟨vs,hv,h0,aH.closed hi hm l _ hc h1⟩
 | .aG l,_,hc,hr=>by
   simp only [aE] at hr ⊢
   obtain ⟨vs,hv,h1⟩:=hr
   exact ⟨vs,hv,aH.closed hi hm l _ hc h1⟩
 | .any,_,_,_=>by simp only [aE]
theorem aH.closed {g g':Gh} (hi:∀ b o x,g.cC b o=some x->g'.cC b o=some x) (hm:∀ b x,g.cj b=some x->g'.cj b=some x):∀ (l:List AV) (vs:List Value),cK l=true->aH g l vs->aH g' l vs
 | [],_,_,hr=>by simpa only [aH] using hr
 | x::xs,_,hc,hr=>by
   simp only [aH] at hr ⊢
   simp only [cK,bX] at hc
   obtain ⟨u,us,hv,h1,h2⟩:=hr
   exact ⟨u,us,hv,aE.closed hi hm x _ hc.1 h1,aH.closed hi hm xs _ hc.2 h2⟩
end
def resolve:Nat->St->AV->AV
 | 0,_,_=>.any
 | n+1,U,x=>match x with
   | .box b off=>match U.box b with
     | some l=>.cU ((l.map (resolve n U)).drop off)
     | none=>.any
   | .ms b off k _ _=>match U.box b with
     | some l=>.vec k .kV ((l.map (resolve n U)).drop off)
     | none=>.any
   | .mp m=>match U.mp m with
     | some (ks,vs)=>.gb ks (vs.map (resolve n U))
     | none=>.any
   | .vec k .full l=>.vec k .full (l.map (resolve n U))
   | .vec k _ l=>.vec k .kV (l.map (resolve n U))
   | .cU l=>.cU (l.map (resolve n U))
   | .gb ks vs=>.gb ks (vs.map (resolve n U))
   | .func f a b=>.func f (a.map (resolve n U)) (b.map (resolve n U))
   | .iface t v=>.iface t (resolve n U v)
   | .agg l=>.agg (l.map (resolve n U))
   | .aG l=>.aG (l.map (resolve n U))
   | .qI _ | .it _=>.any
   | x=>x
noncomputable def Gh.all (g:Gh) (w:World):Gh :=
 { g with
  cC:=fun q o=>if g.base <= q then (match w.cell? ⟨q,o,none⟩ with | some u=>if u.oneCell'=true then some u else none | none=>none) else g.cC q o
  cj:=fun q=>if g.base <= q then (match w.heap[q]? with | some (.map es c)=>if h:(open Classical in decide (km es c))=true then some (es,c) else none | _=>none) else g.cj q }
theorem JS {g:Gh} {w:World} {q o:Nat} {u:Value} (hq:g.base <= q) (hc:w.cell? ⟨q,o,none⟩=some u) (h1:u.oneCell'=true):(g.all w).cC q o=some u:=by
 show (if _ then _ else _)=_
 rw [if_pos hq,hc]; simp [h1]
theorem Gp {g:Gh} {w:World} {q:Nat} {es:Array MapEntry} {c:Nat} (hq:g.base <= q) (hc:w.heap[q]?=some (.map es c)) (h1:km es c):(g.all w).cj q=some (es,c):=by
 show (if _ then _ else _)=_
 rw [if_pos hq,hc]; simp [h1]
theorem bp.CL {g:Gh} {U:St} {w:World} (h:bp g U w):Gh.Le g (g.all w):=by
 refine ⟨rfl,rfl,fun _ _ h=>h,fun b o x hx=>?_,fun b x hx=>?_,fun _ h=>h,fun b o hb=>?_,fun b hb=>?_⟩
 . by_cases hq:g.base <= b
   . exact JS hq (h.cC _ _ _ hx).1 (h.cC _ _ _ hx).2
   . show (if _ then _ else _)=_
     rw [if_neg hq]; exact hx
 . by_cases hq:g.base <= b
   . exact Gp hq (h.cj _ _ _ hx).1 (h.cj _ _ _ hx).2
   . show (if _ then _ else _)=_
     rw [if_neg hq]; exact hx
 . show (if _ then _ else _)=_
   rw [if_neg (by omega)]
 . show (if _ then _ else _)=_
   rw [if_neg (by omega)]
theorem wG {g:Gh} {U:St} {w:World} (h:bp g U w) (q o:Nat) (u:Value) (hu:(g.all w).cC q o=some u):w.cell? ⟨q,o,none⟩=some u/\u.oneCell'=true:=by
 have hu:(if g.base <= q then (match w.cell? ⟨q,o,none⟩ with | some u=>if u.oneCell'=true then some u else none | none=>none) else g.cC q o)=some u:=hu
 split at hu
 . split at hu
   . rename_i x hx
     split at hu
     . cases hu; exact ⟨hx,by assumption⟩
     . cases hu
   . cases hu
 . exact h.cC _ _ _ hu
theorem uR {g:Gh} {U:St} {w:World} (h:bp g U w) (q:Nat) (es:Array MapEntry) (c:Nat) (hu:(g.all w).cj q=some (es,c)):w.heap[q]?=some (.map es c)/\km es c:=by
 have hu:(if g.base <= q then (match w.heap[q]? with | some (.map es c)=>if h:(open Classical in decide (km es c))=true then some (es,c) else none | _=>none) else g.cj q)=some (es,c):=hu
 split at hu
 . split at hu
   . rename_i vF c' hx
     split at hu
     . rename_i hb
       cases hu; exact ⟨hx,by simpa using hb⟩
     . cases hu
   . cases hu
 . exact h.cj _ _ _ hu
theorem BL {g g':Gh} {f:AV->AV}:∀ {l:List AV} {vs:List Value},(∀ x v,x ∈ l->aE g x v->aE g' (f x) v)->aH g l vs->aH g' (l.map f) vs
 | [],_,_,h=>by simpa only [aH,jU] using h
 | x::xs,_,hf,h=>by
   simp only [aH,dV] at h ⊢
   obtain ⟨u,us,hv,h1,h2⟩:=h
   exact ⟨u,us,hv,hf x u (by simp) h1,BL (fun y v hy=>hf y v (by simp [hy])) h2⟩
theorem Bc {g:Gh} {U:St} {w:World} (h:bp g U w):∀ (n:Nat) (x:AV) (v:Value),aE g x v->aE (g.all w) (resolve n U x) v:=by
 intro n
 induction n with
 | zero=>intro x v _; simp only [resolve,aE]
 | succ n ih =>
   intro x v hr
   have hl:=h.CL
   have tF:∀ {l:List AV} {vs:List Value},aH g l vs->aH (g.all w) (l.map (resolve n U)) vs:=fun h=>BL (fun y v _ hy=>ih y v hy) h
   have hi:∀ {aN off:Nat} {vs:List Value},lV g aN off vs->lV (g.all w) aN off vs:=fun h=>h.mono hl
   have box:∀ {b off:Nat} {l:List AV} {p:Place},U.box b=some l->g.place b=some p->∃ vs,lV (g.all w) p.aN off vs/\aH (g.all w) ((l.map (resolve n U)).drop off) vs:=fun {b off l p} hb hp=>by
    obtain ⟨x',cur,vs,rest,k1,k2,k3,k4,k5,k6,k7,k8⟩:=h.box b l hb
    have k1:g.place b=some x':=k1
    rw [hp] at k1; cases k1
    refine ⟨vs.drop off,fun i u hu=>?_,(tF k6).drop off⟩
    rw [List.getElem?_drop] at hu
    have aM:off+i < vs.length:=by
     rcases gr (off+i) vs.length with h | h
     . exact h
     . simp [zE h] at hu
    have hc:cur[off+i]?=some u:=by rw [<- lK,k5,va aM]; exact hu
    exact JS k2 (by rw [cell_of_row _ _ _ cur p.e (0,0) k3]; exact hc) (k7 u (fl (by rw [lK]; exact hc)))
   cases x with
   | box b off =>
     simp only [resolve]
     cases hb:U.box b with
     | none=>simp only [aE]
     | some l =>
       simp only [aE] at hr ⊢
       obtain ⟨p,hp,rfl⟩:=hr
       obtain ⟨vs,h1,h2⟩:=box (off:=off) hb hp
       exact ⟨p.aN,off,vs,rfl,h1,h2⟩
   | ms b off k jq e =>
     simp only [resolve]
     cases hb:U.box b with
     | none=>simp only [aE]
     | some l =>
       simp only [aE] at hr ⊢
       obtain ⟨p,c,hp,rfl,q1,q2,_⟩:=hr
       obtain ⟨vs,h1,h2⟩:=box (off:=off) hb hp
       exact ⟨p.aN,off,c,vs,rfl,q1,q2,trivial,h1,h2⟩
   | mp m =>
     simp only [resolve]
     cases hm:U.mp m with
     | none=>simp only [aE]
     | some kv =>
       obtain ⟨ks,vs⟩:=kv
       simp only [aE] at hr ⊢
       obtain ⟨r,hr,rfl⟩:=hr
       obtain ⟨r',es,clock,q1,q2,q3,qb,⟨l,q4,q5,q6,q7⟩,q8⟩:=h.mp m _ hm
       rw [hr] at q1; cases q1
       exact ⟨r,es,clock,l,rfl,Gp q2 q3 qb,q4,q5,q6.mono hl,tF q7⟩
   | vec k c l =>
     simp only [aE] at hr
     obtain ⟨aN,off,c',vs,rfl,h1,h2,h3,h4,h5⟩:=hr
     cases c with
     | full=>simp only [resolve,aE]; exact ⟨aN,off,c',vs,rfl,h1,h2,h3,hi h4,tF h5⟩
     | own τ=>simp only [resolve,aE]; exact ⟨aN,off,c',vs,rfl,h1,h2,trivial,hi h4,tF h5⟩
     | kV=>simp only [resolve,aE]; exact ⟨aN,off,c',vs,rfl,h1,h2,trivial,hi h4,tF h5⟩
   | cU l =>
     simp only [resolve,aE] at hr ⊢
     obtain ⟨aN,off,vs,rfl,h1,h2⟩:=hr
     exact ⟨aN,off,vs,rfl,hi h1,tF h2⟩
   | gb ks vs =>
     simp only [resolve,aE] at hr ⊢
     obtain ⟨r,es,c,l,rfl,he,hp,hs,h1,h2⟩:=hr
     exact ⟨r,es,c,l,rfl,hl.cj _ _ he,hp,hs,h1.mono hl,tF h2⟩
   | func f a b =>
     simp only [resolve,aE] at hr ⊢
     obtain ⟨fs,cs,rfl,h1,h2⟩:=hr
     exact ⟨fs,cs,rfl,tF h1,tF h2⟩
   | iface t x =>
     simp only [resolve,aE] at hr ⊢
     obtain ⟨u,rfl,h1⟩:=hr
     exact ⟨u,rfl,ih _ _ h1⟩
   | agg l =>
     simp only [resolve,aE] at hr ⊢
     obtain ⟨vs,rfl,h0,h1⟩:=hr
     exact ⟨vs,rfl,h0,tF h1⟩
   | aG l =>
     simp only [resolve,aE] at hr ⊢
     obtain ⟨vs,rfl,h1⟩:=hr
     exact ⟨vs,rfl,tF h1⟩
   | qI o=>simp only [resolve,aE]
   | it o=>simp only [resolve,aE]
   | any=>simp only [resolve,aE]
   | bool b=>simp only [resolve]; exact hr.mono hl
   | int k n=>simp only [resolve]; exact hr.mono hl
   | str s=>simp only [resolve]; exact hr.mono hl
   | bU=>simp only [resolve]; exact hr.mono hl
   | aA=>simp only [resolve]; exact hr.mono hl
   | lr=>simp only [resolve]; exact hr.mono hl
   | ez=>simp only [resolve]; exact hr.mono hl
   | dv=>simp only [resolve]; exact hr.mono hl
theorem Pure.Ar {C:cT} {f:Nat} {args:List AV} {x:AV} (Cw:∀ i,closed (C.yT i)=true) (hargs:cK args=true) (hx:closed x=true) (d:Nat)
 (h:ag C f args (bJ ⟨.e,0⟩) (fun r U=>∃ v,r=.ret v/\resolve d U v=x)):Pure C f args x:=by
 intro U R hR g w vs hs hG ha
 let g0:Gh:={ base:=w.heap.size,w0:=w,place:=fun _=>none,cC:=g.cC,cj:=g.cj,res:=fun _=>false }
 have uu:bp g0 (bJ ⟨.e,0⟩) w:={
  below:=Below.refl _ _
  le:=gE _
  cC:=hs.cC
  cj:=hs.cj
  live:=fun b x hb=>by cases hb
  apart:=fun b b' x x' p p' hb=>by cases hb
  res:=fun r hr=>by cases hr
  fin:=⟨0,fun n hn=>by cases hn; rfl,fun _ _=>rfl⟩ }
 have Nt:ix C g0:=⟨fun i=>aE.closed (g:=g) (g':=g0) (fun _ _ _ h=>h) (fun _ _ h=>h) _ _ (Cw i) (hG.1 i),fun i cs hi=>by
  obtain ⟨k1,t,fr,k2⟩:=hG.2 i cs hi
  refine ⟨Nat.lt_of_lt_of_le k1 hs.le,t,fr,?_⟩
  show w.heap[i]?=_
  rw [hs.below.block i k1]; exact k2⟩
 have ZC:aH g0 args vs:=aH.closed (g:=g) (g':=g0) (fun _ _ _ h=>h) (fun _ _ h=>h) _ _ hargs ha
 refine (h g0 w vs uu Nt ZC).mono ?_
 rintro e w' hp
 cases e with
 | panicked ch=>obtain ⟨g',af,y,v,_,_,_,_,z,hz,_⟩:=hp; cases hz
 | outgrown=>exact hp.elim
 | returned v =>
   obtain ⟨g',af,y,h1,h2,h3,z,hz,hres⟩:=hp
   cases hz
   have bA:=Bc h2 d y v h3
   rw [hres] at bA
   have tE:=h2.CL
   have hle:=h1.trans tE
   have afF:g'.base=w.heap.size:=h1.base
   have wN:Below w.heap.size w w':=by
    have:=h2.below
    rw [h1.base,h1.w0] at this
    exact this
   let gF:Gh:={ base:=g.base,w0:=g.w0,place:=g.place,cC:=(g'.all w').cC,cj:=(g'.all w').cj,res:=g.res }
   have He:Gh.Le g gF:=⟨rfl,rfl,fun _ _ h=>h,fun b o u hu=>hle.cC b o u hu,fun b u hu=>hle.cj b u hu,fun _ h=>h,
    fun b o hb=>hle.ze b o (by show b < w.heap.size; have:=hs.le; omega),fun b hb=>hle.vT b (by show b < w.heap.size; have:=hs.le; omega)⟩
   refine ⟨gF,U,x,He,?_,aE.closed (g:=g'.all w') (g':=gF) (fun _ _ _ h=>h) (fun _ _ h=>h) x v hx bA,hR⟩
   exact {
    below:=hs.below.trans (wN.mono hs.le)
    le:=Nat.le_trans hs.le wN.size
    cC:=fun q o u hu=>wG h2 q o u hu
    cj:=fun q es c hu=>uR h2 q es c hu
    live:=fun b l hb=>by
     obtain ⟨p,k1,k2,k3⟩:=hs.live b l hb
     have aM:=k3.lt
     exact ⟨p,k1,k2,k3.frame He.r (wN.block _ aM) (fun o=>hle.ze _ o aM) (hle.vT _ aM)⟩
    apart:=hs.apart
    res:=fun r hr=>by
     obtain ⟨k1,k2⟩:=hs.res r hr
     exact ⟨k1,by rw [wN.block _ (kG.1 k2).1]; exact k2⟩
    fin:=hs.fin }
def acT (d:Nat) (x:AV):KR
 | .ret v,e=>jl (resolve d (bJ e) v) x
 | .panic _,_=>false
theorem Pure.fB {V:iO} (hV:qJ V) (n d:Nat) {f:Nat} {args:List AV} {x:AV} (Cw:∀ i,closed (V.C.yT i)=true) (h:(cK args && closed x && sP V (nP V n) f args ⟨.e,0⟩ (acT d x))=true):Pure V.C f args x:=by
 simp only [bX] at h
 refine Pure.Ar Cw h.1.1 h.1.2 d ((Zf hV n f args ⟨.e,0⟩ _ h.2).mono ?_)
 rintro r U ⟨e,rfl,hk⟩
 cases r with
 | ret v=>exact ⟨v,rfl,vE hk⟩
 | panic v=>cases hk
end Go.Rip
namespace Go.Rip
open Go.RowKit
def Ux (R:St->Prop):Ex->Env->St->Prop
 | .normal,_,U=>R U
 | .ret,_,U=>R U
 | _,_,_=>False
theorem W1 {C:cT} {f:FuncId} {fn:Func} {id:Nat} {o:Oper} {d:Nat} {rest:Code} {args:List AV} {U:St} {g:Gh} {w:World} {vs:List Value}
 (hf:C.P.funcs[f]?=some fn) (hb:fn.body=some (.seq (.region id #[o] false) rest)) (hres:fn.results=#[]) (hop:∀ ev w,(execOp ev o).run C.P w=.ok .recover w) (hd:o.dst=some d) (hdn:d < fn.ntmps) (hg:o.guard=none)
 (hlen:args.length <= fn.ntmps) (hs:bp g U w) (hG:ix C g) (ha:aH g args vs) {x:AV} {v:Value} {u u':FrameMode} (hx:aE g x v)
 (hu:(u=.returning/\v=.nilIface/\u'=.returning)\/(u=.panicking [{ v,recovered:=false }]/\u'=.panicking [{ v,recovered:=true }])) (R:St->Prop)
 (h:bI C fn.ntmps .bare rest (Ux R) ((Env.jG args).put d x) U) :
 CallsDIn Fence.wide 0 C.P f vs.toArray u w (fun e u2 w'=>∃ v',e=.returned v'/\u2=u'/\∃ g' af,Gh.Le g g'/\bp g' af w'/\R af):=by
 refine callsDIn_of_wpSIn hf hb trivial fun GG cs hm=>?_
 refine wpSIn_seq (wpSIn_region ?_)
 have hl:=ha.length
 have eH:(vs.toArray++Array.replicate (fn.ntmps - vs.toArray.size) undef).size=fn.ntmps:=by simp; omega
 have DM:gM g (Env.jG args) (vs.toArray++Array.replicate (fn.ntmps - vs.toArray.size) undef):=Bn args vs _ ha
 have SU:=DM.put (d:=d) (by rw [eH]; exact hdn) hx
 have after:∀ Cg,(Cg={ GG with mode:=u' }::cs)->rest.wpSIn Fence.wide 0 C.P (bodyPostS C.P fn GG cs fun e u2 w'=>∃ v',e=.returned v'/\u2=u'/\∃ g' af,Gh.Le g g'/\bp g' af w'/\R af)
  (Act.put { tmps:=vs.toArray++Array.replicate (fn.ntmps - vs.toArray.size) undef,defers:=[] } o.dst v) Cg w:=fun Cg tw=>by
  refine wpSIn_of_wpIn rfl ?_
  have:=h g w (Act.put { tmps:=vs.toArray++Array.replicate (fn.ntmps - vs.toArray.size) undef,defers:=[] } o.dst v) none hs hG (by rw [hd]; exact SU) (by rw [(om _ _ _).2]; exact eH) trivial
  refine wpIn_mono this ?_
  rintro e a w' ⟨q1,g',af,dY,ms,q2,q3,q4,q5,q6,q7⟩
  have y6:ms=[]:=q3.none rfl
  subst y6
  rw [(om _ _ _).1] at q2
  simp only [jU,mw] at q2
  have hr:∀ tmps,(results fn tmps).run C.P w'=.ok (.tuple #[]) w':=fun tmps=>by
   unfold results
   rw [hres]
   simp
  cases e with
  | normal=>exact ⟨q2,u',tw,_,hr _,_,rfl,rfl,g',af,q4,q5,q7⟩
  | ret=>exact ⟨q2,u',tw,_,hr _,_,rfl,rfl,g',af,q4,q5,q7⟩
  | exit id=>exact q7.elim
  | panic ch=>obtain ⟨_,_,_,_,hf⟩:=q7; exact hf.elim
  | goto l=>exact q7.elim
  | outgrown=>exact q7.elim
 have hw:Region.wanted o (yielded #[o] (vs.toArray++Array.replicate (fn.ntmps - vs.toArray.size) undef))=true:=by simp [Region.wanted,hg]
 show wpOpsSIn Fence.wide 0 C.P #[o] _ [0] _ _ _
 simp only [wpOpsSIn,List.getElem?_toArray,List.getElem?_cons_zero,hw,if_true,hop]
 refine ⟨fun _ _=>trivial,?_⟩
 rcases hu with ⟨rfl,rfl,rfl⟩ | ⟨rfl,rfl⟩
 . have e1:recoverD (GG::cs)=none:=by simp [recoverD,hm]
   rw [e1]
   exact after _ (by rw [<- hm])
 . have e1:recoverD (GG::cs)=some (v,{ GG with mode:=.panicking [{ v,recovered:=true }] }::cs):=by simp [recoverD,hm]
   rw [e1]
   exact after _ rfl
end Go.Rip
