/- Lemmas for the proof: no conditions. -/
import Derived.Test.YtnfpmiiopiinbaaGreatDoorRipZz
import Derived.Test.YtnfpmiiopiinbaaGreatDoorRipA
import Derived.OrdersIn
import Derived.RecoverIn
set_option linter.unusedVariables false
set_option linter.unusedSimpArgs false
set_option linter.loopingSimpArgs false
namespace Go.Rip
open Go.RowKit
inductive cA where
 | ret (x:AV)
 | panic (x:AV)
inductive Ex where
 | normal
 | exit (id:Nat)
 | ret
 | panic (x:AV)
def FW (ro:Option Nat):Fence:={ Fence.wide with round:=ro }
def nH (g:Gh) (R:cA->St->Prop):Ending->World->Prop
 | .returned v,w'=>∃ g' ad x,Gh.Le g g'/\a8 g' ad w'/\ay g' x v/\R (.ret x) ad
 | .panicked ch,w'=>∃ g' ad x v,ch=[{ v,recovered:=false }]/\Gh.Le g g'/\a8 g' ad w'/\ay g' x v/\R (.panic x) ad
 | .outgrown,_=>False
def ae (C:cq) (f:FuncId) (args:List AV) (U:St) (R:cA->St->Prop):Prop :=
 ∀ g w vs,a8 g U w->gD C g->az g args vs->CallsIn Fence.wide 0 C.P f (List.toArray vs) w (nH g R)
def kV (C:cq) (o:Nat) (args:List AV) (U:St) (R:cA->St->Prop):Prop :=
 ∀ g w vs x,a8 g U w->gD C g->az g args vs->g.place o=some x->∃ fn tmps assign body,(Instr.yield x.aE (List.toArray vs)).run C.P w=.ok (.round x.aE fn tmps assign body) w /\
  RoundIn Fence.wide 0 C.P x.aE fn tmps assign body w (nH g R)
theorem nH.mono {g:Gh} {R R':cA->St->Prop} {e:Ending} {w:World} (h:nH g R e w) (hr:∀ r U,R r U->R' r U):nH g R' e w:=by
 cases e with
 | returned v=>obtain ⟨g',ad,x,h1,h2,h3,h4⟩:=h; exact ⟨g',ad,x,h1,h2,h3,hr _ _ h4⟩
 | panicked ch=>obtain ⟨g',ad,x,v,h0,h1,h2,h3,h4⟩:=h; exact ⟨g',ad,x,v,h0,h1,h2,h3,hr _ _ h4⟩
 | outgrown=>exact h
theorem ae.mono {C:cq} {f:FuncId} {args:List AV} {U:St} {R R':cA->St->Prop} (h:ae C f args U R) (hr:∀ r U,R r U->R' r U):ae C f args U R' :=
 fun g w vs hs hG ha=>(h g w vs hs hG ha).mono fun _ _ hp=>hp.mono hr
theorem kV.mono {C:cq} {f:Nat} {args:List AV} {U:St} {R R':cA->St->Prop} (h:kV C f args U R) (hr:∀ r U,R r U->R' r U):kV C f args U R' :=
 fun g w vs x hs hG ha hx=>let ⟨a,b,c,d,e,r⟩:=h g w vs x hs hG ha hx; ⟨a,b,c,d,e,r.mono fun _ _ hp=>hp.mono hr⟩
def ag (K:AV->St->Prop) (Kp:AV->St->Prop):cA->St->Prop
 | .ret x,U=>K x U
 | .panic x,U=>Kp x U
def aD.wp (C:cq) (U:St) (K:AV->St->Prop) (Kp:AV->St->Prop):aD->Prop
 | .val v=>K v U
 | .gx v b x=>K v (U.set b x)
 | .new k del x=>∀ b,(U.qO del).cY b->K (k.at b) ((U.qO del).new b x)
 | .ki b l=>∀ p ∈ l,K p.1 (U.set b p.2)
 | .enter f args=>ae C f args U (ag K Kp)
 | .yield l args=>kV C l args U (ag K Kp)
 | .panic v=>Kp v U
 | @aD.cond p _ r=>p/\r.wp C U K Kp
 | .bad=>False
def gq (ops:Array Oper) (ρ:Env):Option (Nat × Bool)->AV
 | none=>.bool true
 | some (j,want)=>match (ops[j]?).bind (·.dst) with
   | some d=>match ρ.get d with
     | .bool b=>.bool (b == want)
     | .aF []=>.bool false
     | _=>.any
   | none=>.any
def av:AV->Prop->Prop->Prop
 | .bool b,A,B=>(b=true->A)/\(b=false->B)
 | _,_,_=>False
def nW (C:cq) (mu:List Nat) (ops:Array Oper):List Oper->Env->St->(Env->St->Prop)->(AV->St->Prop)->Prop
 | [],ρ,U,K,_=>K ρ U
 | o::rest,ρ,U,K,Kp=>av (gq ops ρ o.guard)
    ((iK C (match o.dst with | some d=>mu.contains d | none=>false) o.op ρ U).wp C U (fun v ad=>nW C mu ops rest (ρ.dM o.dst v) ad K Kp) Kp)
    (nW C mu ops rest (ρ.dM o.dst (.aF [])) U K Kp)
def Eu (r:Nat):Deferred:={ target:=.collected r,args:=#[] }
def Fk (g:Gh) (Q:Ex->Env->St->Prop) (ρ:Env) (U:St):Exit->Prop
 | .normal=>Q .normal ρ U
 | .exit id=>Q (.exit id) ρ U
 | .ret=>Q .ret ρ U
 | .panic ch=>∃ x v,ch=[{ v,recovered:=false }]/\ay g x v/\Q (.panic x) ρ U
 | .goto _=>False
 | .outgrown=>False
inductive Ro where
 | fn
 | bare
 | round (o:Nat)
def Ro.nm:Ro->Bool
 | .bare=>true
 | _=>false
structure nA (nm:Bool) (g g':Gh) (ms:List Nat):Prop where
 none:nm=true->ms=[]
 nodup:ms.Nodup
 res:∀ r ∈ ms,g'.res r=true/\g.res r=false
theorem kI (nm:Bool) (g g':Gh):nA nm g g' []:=⟨fun _=>rfl,List.nodup_nil,by simp⟩
theorem nA.append {nm:Bool} {g g1 g2:Gh} {m1 m2:List Nat} (h1:nA nm g g1 m1) (h2:nA nm g1 g2 m2) (l1:Gh.Le g g1) (l2:Gh.Le g1 g2):nA nm g g2 (m2++m1):=by
 refine ⟨fun h=>by rw [h1.none h,h2.none h]; rfl,List.nodup_append.2 ⟨h2.nodup,h1.nodup,fun x hx y hy e=>?_⟩,fun r hr=>?_⟩
 . subst e
   have:=(h2.res x hx).2
   rw [(h1.res x hy).1] at this; cases this
 . simp only [fB] at hr
   rcases hr with hr | hr
   . refine ⟨(h2.res r hr).1,?_⟩
     cases e:g.res r with
     | false=>rfl
     | true=>have:=(h2.res r hr).2; rw [l1.res _ e] at this; cases this
   . exact ⟨l2.res _ (h1.res r hr).1,(h1.res r hr).2⟩
def pH (g:Gh) (nt:Nat) (nm:Bool) (ds:List Deferred) (Q:Ex->Env->St->Prop) (e:Exit) (a:Act) (w:World):Prop :=
 a.tmps.size=nt/\∃ g' U ρ ms,a.defers=ms.map Eu++ds/\nA nm g g' ms/\Gh.Le g g'/\a8 g' U w/\ga g' ρ a.tmps/\Fk g' Q ρ U e
def EP (g:Gh):Ro->Option Nat->Prop
 | .fn,none=>True
 | .bare,none=>True
 | .round o,some l=>∃ x,g.place o=some x/\x.aE=l
 | _,_=>False
theorem EP.mono {g g':Gh} (h:Gh.Le g g') {ro:Ro} {fr:Option Nat} (hr:EP g ro fr):EP g' ro fr:=by
 cases ro <;> cases fr <;> simp only [EP] at hr ⊢
 obtain ⟨x,h1,h2⟩:=hr
 exact ⟨x,h.place _ _ h1,h2⟩
def bo (C:cq) (nt:Nat) (ro:Ro) (c:Code) (Q:Ex->Env->St->Prop) (ρ:Env) (U:St):Prop :=
 ∀ g w a fr,a8 g U w->gD C g->ga g ρ a.tmps->a.tmps.size=nt->EP g ro fr->c.wpIn (FW fr) 0 C.P (pH g nt ro.nm a.defers Q) a w
section
variable {C:cq} {g:Gh} {U:St} {w:World} {nt:Nat} {nm:Bool} {ro:Ro} {Q:Ex->Env->St->Prop} {ρ:Env}
theorem Fk.mono {Q':Ex->Env->St->Prop} {e:Exit} (h:Fk g Q ρ U e) (hq:∀ e ρ U,Q e ρ U->Q' e ρ U):Fk g Q' ρ U e:=by
 cases e <;> first
  | exact hq _ _ _ h
  | (obtain ⟨x,v,h1,h2,h3⟩:=h; exact ⟨x,v,h1,h2,hq _ _ _ h3⟩)
  | exact h
theorem bo.mono {c:Code} {Q':Ex->Env->St->Prop} (h:bo C nt ro c Q ρ U) (hq:∀ e ρ U,Q e ρ U->Q' e ρ U):bo C nt ro c Q' ρ U :=
 fun g w a fr h1 h2 h3 h4 wN=>wpIn_mono (h g w a fr h1 h2 h3 h4 wN) fun e a' w' ⟨k1,g',ad,dx,ms,k2,k3,k4,k5,k6,k7⟩=>⟨k1,g',ad,dx,ms,k2,k3,k4,k5,k6,k7.mono hq⟩
theorem pH.back {g':Gh} {ds:List Deferred} {ms:List Nat} {e:Exit} {a:Act} (h:pH g' nt nm (ms.map Eu++ds) Q e a w) (xI:nA nm g g' ms) (hle:Gh.Le g g'):pH g nt nm ds Q e a w:=by
 obtain ⟨k1,g2,ad,dx,Gn,k2,k3,k4,k5,k6,k7⟩:=h
 exact ⟨k1,g2,ad,dx,Gn++ms,by rw [k2,List.map_append,iM],xI.append k3 hle k4,hle.trans k4,k5,k6,k7⟩
def Zf (K:Env->St->Prop) (Q:Ex->Env->St->Prop):Ex->Env->St->Prop
 | .normal,ρ,U=>K ρ U
 | e,ρ,U=>Q e ρ U
theorem bo.seq {x y:Code} (h:bo C nt ro x (Zf (fun ρ U=>bo C nt ro y Q ρ U) Q) ρ U):bo C nt ro (.seq x y) Q ρ U:=by
 intro g w a fr h1 h2 h3 h4 wN
 refine wpIn_seq (wpIn_mono (h g w a fr h1 h2 h3 h4 wN) ?_)
 rintro e a' w' ⟨k1,g',ad,dx,ms,k2,k3,k4,k5,k6,k7⟩
 cases e with
 | normal =>
   have:=k7 g' w' a' fr k5 (h2.mono k4) k6 k1 (wN.mono k4)
   rw [k2] at this
   exact wpIn_mono this fun e a w hp=>hp.back k3 k4
 | exit id=>exact ⟨k1,g',ad,dx,ms,k2,k3,k4,k5,k6,k7⟩
 | ret=>exact ⟨k1,g',ad,dx,ms,k2,k3,k4,k5,k6,k7⟩
 | panic ch=>exact ⟨k1,g',ad,dx,ms,k2,k3,k4,k5,k6,k7⟩
 | goto l=>exact k7.elim
 | outgrown=>exact k7.elim
theorem x9 {a:Act} {ds:List Deferred} {e:Exit} (h:a8 g U w) (hr:ga g ρ a.tmps) (hn:a.tmps.size=nt) (hd:a.defers=ds) (hq:Fk g Q ρ U e):pH g nt nm ds Q e a w :=
 ⟨hn,g,U,ρ,[],by simpa using hd,kI _ _ _,Gh.Le.refl g,h,hr,hq⟩
theorem bo.skip (h:Q .normal ρ U):bo C nt ro .skip Q ρ U:=fun g w a fr h1 h2 h3 h4 _=>wpIn_skip (x9 h1 h3 h4 rfl h)
theorem bo.exit {id:Nat} (h:Q (.exit id) ρ U):bo C nt ro (.exit id) Q ρ U:=fun g w a fr h1 h2 h3 h4 _=>wpIn_exit (x9 h1 h3 h4 rfl h)
theorem bo.ret (h:Q .ret ρ U):bo C nt ro .ret Q ρ U:=fun g w a fr h1 h2 h3 h4 _=>wpIn_ret (x9 h1 h3 h4 rfl h)
theorem bo.cond {c:Operand} {x y:Code} {b:Bool} (hc:ρ.ev C c=.bool b) (h1:b=true->bo C nt ro x Q ρ U) (h2:b=false->bo C nt ro y Q ρ U):bo C nt ro (.cond c x y) Q ρ U:=by
 intro g w a fr k1 k2 k3 k4 k5
 have:=rX k2 k3 c
 rw [hc] at this
 simp only [ay] at this
 exact wpIn_cond_split this (fun e=>h1 e g w a fr k1 k2 k3 k4 k5) (fun e=>h2 e g w a fr k1 k2 k3 k4 k5)
theorem bo.aa3 {c:Operand} {x y:Code} (hc:ρ.ev C c=.bool true) (h1:bo C nt ro x Q ρ U):bo C nt ro (.cond c x y) Q ρ U:=bo.cond hc (fun _=>h1) (fun h=>by cases h)
theorem bo.aa2 {c:Operand} {x y:Code} (hc:ρ.ev C c=.bool false) (h1:bo C nt ro y Q ρ U):bo C nt ro (.cond c x y) Q ρ U:=bo.cond hc (fun h=>by cases h) (fun _=>h1)
def xh (id:Nat) (Q:Ex->Env->St->Prop):Ex->Env->St->Prop
 | .exit zt,ρ,U=>if zt=id then Q .normal ρ U else Q (.exit zt) ρ U
 | e,ρ,U=>Q e ρ U
theorem bo.block {id:Nat} {c:Code} (h:bo C nt ro c (xh id Q) ρ U):bo C nt ro (.block id c) Q ρ U:=by
 intro g w a fr h1 h2 h3 h4 wN
 refine wpIn_block (wpIn_mono (h g w a fr h1 h2 h3 h4 wN) ?_)
 rintro e a' w' ⟨k1,g',ad,dx,ms,k2,k3,k4,k5,k6,k7⟩
 cases e with
 | normal=>exact ⟨k1,g',ad,dx,ms,k2,k3,k4,k5,k6,k7⟩
 | exit zt =>
   have k7:xh id Q (.exit zt) dx ad:=k7
   simp only [xh] at k7
   simp only [Exit.inBlock]
   split
   . rename_i e; rw [if_pos e] at k7; exact ⟨k1,g',ad,dx,ms,k2,k3,k4,k5,k6,k7⟩
   . rename_i e; rw [if_neg e] at k7; exact ⟨k1,g',ad,dx,ms,k2,k3,k4,k5,k6,k7⟩
 | ret=>exact ⟨k1,g',ad,dx,ms,k2,k3,k4,k5,k6,k7⟩
 | panic ch=>exact ⟨k1,g',ad,dx,ms,k2,k3,k4,k5,k6,k7⟩
 | goto l=>exact k7.elim
 | outgrown=>exact k7.elim
theorem bo.loop {c:Code} (I:Nat->Env->St->Prop) {n:Nat} (h0:I n ρ U) (round:∀ n ρ U,I n ρ U->bo C nt ro c (Zf (fun dx ad=>∃ m,m < n/\I m dx ad) Q) ρ U):bo C nt ro (.loop c) Q ρ U:=by
 intro g w a fr h1 h2 h3 h4 wN
 let J:Nat->Act->World->Prop:=fun n a' w'=>a'.tmps.size=nt/\∃ g' ad dx ms,a'.defers=ms.map Eu++a.defers/\nA ro.nm g g' ms/\Gh.Le g g'/\a8 g' ad w'/\ga g' dx a'.tmps/\I n dx ad
 have ex:∀ a' w',(∃ n,J n a' w')->∃ n,J n a' w'/\∀ m,m < n->¬ J m a' w':=fun a' w' ⟨n,hn⟩=>by
  induction n using Nat.strongRecOn with
  | _ n ih =>
    by_cases hm:∃ m,m < n/\J m a' w'
    . obtain ⟨m,Iz,SU⟩:=hm; exact ih m Iz SU
    . exact ⟨n,hn,fun m Iz SU=>hm ⟨m,Iz,SU⟩⟩
 classical
 let μ:Act->World->Nat:=fun a' w'=>if h:∃ n,J n a' w' then (ex a' w' h).choose else 0
 have hμ:∀ a' w',(∃ n,J n a' w')->J (μ a' w') a' w'/\∀ m,m < μ a' w'->¬ J m a' w':=fun a' w' h=>by
  have:=(ex a' w' h).choose_spec
  simp only [μ,dif_pos h]; exact this
 refine wpIn_loop (fun a' w'=>∃ n,J n a' w') μ ⟨n,h4,g,U,ρ,[],by simp,kI _ _ _,Gh.Le.refl g,h1,h3,h0⟩ ?_
 intro a' w' hJ
 obtain ⟨⟨k1,g',ad,dx,ms,k2,k3,k4,k5,k6,k7⟩,_⟩:=hμ a' w' hJ
 refine wpIn_mono (round _ dx ad k7 g' w' a' fr k5 (h2.mono k4) k6 k1 (wN.mono k4)) ?_
 intro e a2 w2 hp
 rw [k2] at hp
 have hp:=hp.back k3 k4
 obtain ⟨q1,g2,aZ,pT,Gn,q2,q3,q4,q5,q6,q7⟩:=hp
 cases e with
 | normal =>
   obtain ⟨m,hm,hI⟩:=q7
   have XD:J m a2 w2:=⟨q1,g2,aZ,pT,Gn,q2,q3,q4,q5,q6,hI⟩
   refine ⟨⟨m,XD⟩,?_⟩
   have:=(hμ a2 w2 ⟨m,XD⟩).2
   rcases je (μ a2 w2) (μ a' w') with h | h
   . exact h
   . exact absurd XD (this m (by omega))
 | exit id=>exact ⟨q1,g2,aZ,pT,Gn,q2,q3,q4,q5,q6,q7⟩
 | ret=>exact ⟨q1,g2,aZ,pT,Gn,q2,q3,q4,q5,q6,q7⟩
 | panic ch=>exact ⟨q1,g2,aZ,pT,Gn,q2,q3,q4,q5,q6,q7⟩
 | goto l=>exact q7.elim
 | outgrown=>exact q7.elim
end
end Go.Rip
namespace Go.Rip
open Go.RowKit
section
variable {C:cq} {g:Gh} {U:St} {w:World} {nt:Nat} {nm:Bool} {ro:Ro} {fr:Option Nat} {Q:Ex->Env->St->Prop} {ρ:Env}
def Ab (nt:Nat) (o:Oper):Bool :=
 (match o.dst with | some d=>decide (d < nt) | none=>true) && (match o.op with | .defer _=>false | _=>true)
def jY (nt:Nat) (ops:Array Oper):Bool:=ops.toList.all (Ab nt)
theorem zf {ops:Array Oper} {a:Act} (hr:ga g ρ a.tmps) {o:Oper} {b:Bool} (h:gq ops ρ o.guard=.bool b):Region.wanted o (yielded ops a.tmps)=b:=by
 unfold gq at h
 unfold Region.wanted
 cases hg:o.guard with
 | none=>simp [hg] at h; simp [h]
 | some jw =>
   obtain ⟨j,want⟩:=jw
   simp only [hg] at h ⊢
   split at h
   . rename_i d hd
     split at h
     . rename_i b' hb
       simp only [AV.bool.injEq] at h
       subst h
       have:=hr d
       rw [hb] at this
       simp only [ay] at this
       have qP:a.tmps[d]?=some (.bool b'):=by
        rw [Array.getD_eq_getD_getElem?] at this
        cases ht:a.tmps[d]? with
        | none=>rw [ht] at this; simp [undef] at this
        | some v=>rw [ht] at this; simp at this; rw [this]
       unfold yielded
       rw [hd]
       simp only [Option.bind_some,qP]
       cases b' <;> cases want <;> rfl
     . rename_i hb
       simp only [AV.bool.injEq] at h
       subst h
       have:=hr d
       rw [hb] at this
       simp only [ay,az] at this
       obtain ⟨vs,this,rfl⟩:=this
       have qP:∀ b,a.tmps[d]? ≠ some (.bool b):=fun b eH=>by
        rw [Array.getD_eq_getD_getElem?,eH] at this
        simp at this
       unfold yielded
       rw [hd]
       simp only [Option.bind_some]
       first
        | rfl
        | (split
           . rename_i b' eH; exact absurd eH (qP _)
           . rfl)
     . cases h
   . cases h
theorem ni (a:Act) (dst:Option Tmp) (v:Value):(a.put dst v).defers=a.defers/\(a.put dst v).tmps.size=a.tmps.size:=by
 cases dst <;> simp [Act.put]
theorem ga.dM {a:Act} (hr:ga g ρ a.tmps) {dst:Option Tmp} {x:AV} {v:Value} (hd:∀ d,dst=some d->d < a.tmps.size) (hx:ay g x v):ga g (ρ.dM dst x) (a.put dst v).tmps:=by
 cases dst with
 | none=>exact hr
 | some d=>exact hr.put (hd d rfl) hx
theorem tq:ay g (.aF []) undef:=by simp only [ay]; exact ⟨[],rfl,by simp [az]⟩
def KQ (Q:Ex->Env->St->Prop):Env->St->Prop:=fun ρ U=>Q .normal ρ U
def wF (Q:Ex->Env->St->Prop):AV->St->Prop:=fun x U=>∀ ρ,Q (.panic x) ρ U
theorem oP {o:Oper} (cr:Ab nt o=true) {mu:Bool} {K:AV->St->Prop} {Kp:AV->St->Prop} {ds:List Deferred} {next:Act->World->Prop} {a:Act}
 (hs:a8 g U w) (hG:gD C g) (hr:ga g ρ a.tmps) (hn:a.tmps.size=nt)
 (h:(iK C mu o.op ρ U).wp C U K Kp)
 (nD:∀ g' ad w' x v,Gh.Le g g'->a8 g' ad w'->ay g' x v->K x ad->next (a.put o.dst v) w')
 {QQ:Exit->Act->World->Prop} (FR:∀ g' ad w' x v,Gh.Le g g'->a8 g' ad w'->ay g' x v->Kp x ad->QQ (.panic [{ v,recovered:=false }]) a w') :
 o.wpIn (FW fr) 0 C.P a w next QQ:=by
 refine ⟨fun _ _=>trivial,?_⟩
 have FB:∀ c,o.op ≠ .defer c:=fun c e=>by simp [Ab,e] at cr
 rw [Oper.semAt_eq _ _ _ FB]
 have fits:=Ru (C:=C) hs hG hr mu o
 generalize hres:(execOp a.eval o).run C.P w=res at fits ⊢
 generalize iK C mu o.op ρ U=r at fits h
 have val:∀ {x ad},(∃ u w' g',(res=.ok (.value u) w'\/(res=.ok .skip w'/\u=undef))/\Gh.Le g g'/\a8 g' ad w'/\ay g' x u)->K x ad->o.uponIn (FW fr) 0 C.P a next QQ res:=by
  rintro x ad ⟨u,w',g',hu,hle,dY,hx⟩ hk
  rcases hu with rfl | ⟨rfl,rfl⟩
  . exact nD g' ad w' x u hle dY hx hk
  . exact nD g' ad w' x undef hle dY hx hk
 induction r with
 | val v=>exact val fits h
 | gx v b x=>exact val fits h
 | new k del x=>obtain ⟨u,w',g',b,rfl,hb,hle,dY,hx⟩:=fits; exact nD g' _ w' _ u hle dY hx (h b hb)
 | ki b l=>obtain ⟨u,w',g',v,x,rfl,hm,hle,dY,hx⟩:=fits; exact nD g' _ w' _ u hle dY hx (h (v,x) hm)
 | enter f args =>
   obtain ⟨vs,w',rfl,dY,ha⟩:=fits
   refine ⟨fun hd=>by simp [FW,Fence.wide] at hd,?_⟩
   have hc:CallsIn (FW fr) 0 C.P f (List.toArray vs) w' (nH g (ag K Kp)):=h g w' vs dY hG ha
   refine hc.mono ?_
   rintro e w2 hp
   cases e with
   | returned v=>obtain ⟨g',ad,x,h1,h2,h3,h4⟩:=hp; exact nD g' ad w2 x v h1 h2 h3 h4
   | panicked ch=>obtain ⟨g',ad,x,v,rfl,h1,h2,h3,h4⟩:=hp; exact FR g' ad w2 x v h1 h2 h3 h4
   | outgrown=>exact hp.elim
 | yield l args =>
   obtain ⟨vs,x,w0,w',hx,rfl,rfl,dY,ha⟩:=fits
   obtain ⟨fn,tmps,assign,body,hy,hR⟩:=h g w' vs x dY hG ha hx
   rw [hy]
   refine ⟨fun hd=>by simp [FW,Fence.wide] at hd,?_⟩
   have hc:RoundIn (FW fr) 0 C.P x.aE fn tmps assign body w' (nH g (ag K Kp)):=hR
   refine hc.mono ?_
   rintro e w2 hp
   cases e with
   | returned v=>obtain ⟨g',ad,x,h1,h2,h3,h4⟩:=hp; exact nD g' ad w2 x v h1 h2 h3 h4
   | panicked ch=>obtain ⟨g',ad,x,v,rfl,h1,h2,h3,h4⟩:=hp; exact FR g' ad w2 x v h1 h2 h3 h4
   | outgrown=>exact hp.elim
 | panic v=>obtain ⟨u,w',rfl,dY,hx⟩:=fits; exact FR g _ w' v u (Gh.Le.refl g) dY hx h
 | cond p r ih=>exact ih (fits h.1) h.2
 | bad=>exact h.elim
theorem vQ {mu:List Nat} {ops:Array Oper} (cr:jY nt ops=true) (g0:Gh):∀ (l:List Nat) (g:Gh) (U:St) (w:World) (ρ:Env) (a:Act) (ds:List Deferred),Gh.Le g0 g->a8 g U w->gD C g->ga g ρ a.tmps->a.tmps.size=nt->a.defers=ds ->
 nW C mu ops (l.filterMap (ops[·]?)) ρ U (KQ Q) (wF Q)->wpOpsIn (FW fr) 0 C.P ops (pH g0 nt nm ds Q) l a w
 | [],g,U,w,ρ,a,ds,h0,hs,hG,hr,hn,hd,h=>by
   simp only [wpOpsIn]
   exact ⟨hn,g,U,ρ,[],by simpa using hd,kI _ _ _,h0,hs,hr,h⟩
 | i::rest,g,U,w,ρ,a,ds,h0,hs,hG,hr,hn,hd,h=>by
   simp only [wpOpsIn]
   cases ho:ops[i]? with
   | none =>
     simp only [List.filterMap_cons,ho] at h
     exact vQ cr g0 rest g U w ρ a ds h0 hs hG hr hn hd h
   | some o =>
     dsimp only
     simp only [List.filterMap_cons,ho,nW] at h
     have lG:o ∈ ops.toList:=by
      have:=fj (l:=ops.toList) (i:=i) (a:=o) (by rw [jS]; exact ho)
      exact this
     have FQ:Ab nt o=true:=by
      unfold jY at cr
      rw [eC] at cr
      exact cr o lG
     have QV:∀ d,o.dst=some d->d < a.tmps.size:=fun d wL=>by
      simp only [Ab,wL,bL,dI] at FQ
      rw [hn]; exact FQ.1
     have go:∀ g' ad w' x v,Gh.Le g g'->a8 g' ad w'->ay g' x v->nW C mu ops (rest.filterMap (ops[·]?)) (ρ.dM o.dst x) ad (KQ Q) (wF Q)->wpOpsIn (FW fr) 0 C.P ops (pH g0 nt nm ds Q) rest (a.put o.dst v) w':=fun g' ad w' x v hle dY hx hk =>
      vQ cr g0 rest g' ad w' (ρ.dM o.dst x) (a.put o.dst v) ds (h0.trans hle) dY (hG.mono hle) ((hr.mono hle).dM QV hx) (by rw [(ni a o.dst v).2]; exact hn) (by rw [(ni a o.dst v).1]; exact hd) hk
     cases Mm:gq ops ρ o.guard <;> rw [Mm] at h <;> simp only [av] at h
     rename_i b
     have hw:=zf hr Mm
     cases b
     . rw [if_neg (by rw [hw]; simp)]
       exact ⟨fun _ _=>trivial,go g U w (.aF []) undef (Gh.Le.refl g) hs tq (h.2 rfl)⟩
     . rw [if_pos hw]
       refine oP FQ hs hG hr hn (h.1 rfl) go ?_ (ds:=ds)
       intro g' ad w' x v hle dY hx hk
       exact ⟨hn,g',ad,ρ,[],by simpa using hd,kI _ _ _,h0.trans hle,dY,hr.mono hle,x,v,rfl,hx,hk ρ⟩
theorem BC (ops:Array Oper):(List.range ops.size).filterMap (ops[·]?)=ops.toList:=by
 apply List.ext_getElem?
 intro i
 have:∀ n,n <= ops.size->(List.range n).filterMap (ops[·]?)=ops.toList.take n:=fun n=>by
  induction n with
  | zero=>intro _; simp
  | succ n ih =>
    intro hn
    rw [List.range_succ,List.filterMap_append,ih (by omega),qU]
    have:ops[n]?=some ops[n]:=by simp
    simp [this]
 rw [this ops.size (dk _),pL (by simp)]
theorem bo.region {id:Nat} {ops:Array Oper} (mu:List Nat) (cr:jY nt ops=true) (h:nW C mu ops ops.toList ρ U (KQ Q) (wF Q)):bo C nt ro (.region id ops false) Q ρ U:=by
 intro g w a fr h1 h2 h3 h4 wN
 exact wpIn_region (vQ cr g (List.range ops.size) g U w ρ a a.defers (Gh.Le.refl g) h1 h2 h3 h4 rfl (by rw [BC]; exact h))
end
end Go.Rip
namespace Go.Rip
open Go.RowKit
def mR (x:AV) (U:St) (x':AV) (ad:St):Prop:=∀ g w v,a8 g U w->ay g x v->∃ g',Gh.Le g g'/\a8 g' ad w/\ay g' x' v
theorem mR.refl (x:AV) (U:St):mR x U x U:=fun g w v h hr=>⟨g,Gh.Le.refl g,h,hr⟩
theorem mR.trans {x y z:AV} {a b c:St} (h:mR x a y b) (k:mR y b z c):mR x a z c:=fun g w v hs hr =>
 let ⟨g1,l1,s1,r1⟩:=h g w v hs hr
 let ⟨g2,l2,s2,r2⟩:=k g1 w v s1 r1
 ⟨g2,l1.trans l2,s2,r2⟩
theorem mR.weaken (x:AV) {U ad:St} (h:St.Le ad U):mR x U x ad:=fun g w v hs hr=>⟨g,Gh.Le.refl g,hs.weaken h,hr⟩
theorem mR.freeze {b:Nat} {U:St} {l:List AV} (hb:U.box b=some l):mR (.box b 0) U (.cn l) (U.del b):=fun g w v hs hr=>by
 simp only [ay] at hr
 obtain ⟨x,hx,rfl⟩:=hr
 obtain ⟨g',vs,hle,_,hi,hl,dY⟩:=hs.freeze hb hx
 exact ⟨g',hle,dY,by simp only [ay]; exact ⟨x.aE,0,vs,rfl,hi,hl.mono hle⟩⟩
def yN (P:Program) (t:TypeId) (p:AV) (U:St) (k:AV->Prop):Prop :=
 match td P t p U with
 | .val v=>k v
 | @aD.cond q _ (.val v)=>q/\k v
 | _=>False
def ue (P:Program) (ρ:Env) (U:St):List ResultVar->(List AV->Prop)->Prop
 | [],k=>k []
 | .tmp t::rs,k=>ue P ρ U rs fun vs=>k (ρ.get t::vs)
 | .cell t ty::rs,k=>yN P ty (ρ.get t) U fun v=>ue P ρ U rs fun vs=>k (v::vs)
def ug:List AV->AV
 | [x]=>x
 | l=>.aF l
def adT (P:Program) (fn:Func) (R:cA->St->Prop):Ex->Env->St->Prop
 | .normal,ρ,U | .ret,ρ,U=>ue P ρ U fn.results.toList fun vs=>∃ x ad,mR (ug vs) U x ad/\R (.ret x) ad
 | .panic x,_,U=>R (.panic x) U
 | .exit _,_,_=>False
def Env.iJ (args:List AV):Env:=⟨fun t=>args.getD t (.aF [])⟩
section
variable {C:cq} {g:Gh} {U:St} {w:World} {nt:Nat} {ro:Ro} {Q:Ex->Env->St->Prop} {ρ:Env}
theorem MX (h:a8 g U w) {t:TypeId} {p:AV} {v:Value} (hp:ay g p v) {k:AV->Prop} (hk:yN C.P t p U k):∃ u x,(do loadVar t (<- asAddr v):Sem Value).run C.P w=.ok u w/\ay g x u/\k x:=by
 unfold yN td at hk
 cases hv:mF C.P t with
 | none=>simp [hv] at hk
 | some bs =>
   obtain ⟨b,sz⟩:=bs
   cases hl:kX U p with
   | none=>rw [hv,hl] at hk; cases b <;> simp at hk
   | some l =>
     rw [hv,hl] at hk
     obtain ⟨i,d,hi,hd,hb,dQ⟩:=ny hv
     obtain ⟨a,vs,rfl,ha,hr,hc⟩:=qp h hp hl
     cases b
     . cases l with
       | nil=>simp [gJ] at hk
       | cons x xs =>
         simp only [gJ] at hk
         simp only [az] at hr
         obtain ⟨u,us,rfl,h1,h2⟩:=hr
         have:=(hc 0 u rfl).1
         have h0:a.add 0=a:=by simp [Addr.add]
         rw [h0] at this
         refine ⟨u,x,?_,h1,hk⟩
         simp only [asAddr,loadVar,bN,ck,ca,ky hd,hb,bJ,if_false,run_load,this,eD]
     . obtain ⟨hle,hk⟩:=hk
       have hlen:=hr.length
       have gi:(loadCells a (vs.take sz).length).run C.P w=.ok (vs.take sz).toArray w :=
        run_loadCells_list (P:=C.P) w a (vs.take sz) fun j u hu=>by
         rw [List.getElem?_take] at hu
         split at hu
         . exact (hc j u hu).1
         . cases hu
       have se:(vs.take sz).length=sz:=by simp; omega
       rw [se] at gi
       have L9:∀ u ∈ vs.take sz,u.oneCell'=true:=fun u hu=>by
        obtain ⟨j,hj⟩:=List.getElem?_of_mem hu
        rw [List.getElem?_take] at hj
        split at hj
        . exact (hc j u hj).2
        . cases hj
       refine ⟨.agg (vs.take sz).toArray,_,?_,?_,hk⟩
       . simp only [asAddr,loadVar,bN,ck,ca,ky hd,hb,if_true,eg hi,dQ,gi,eD]
       . simp only [ay]; exact ⟨_,rfl,L9,hr.take sz⟩
theorem Aj (h:a8 g U w) {a:Act} (hr:ga g ρ a.tmps):∀ (rs:List ResultVar) (k:List AV->Prop),ue C.P ρ U rs k ->
 ∃ us xs,(rs.mapM (fun
  | .tmp t=>pure (a.tmps.getD t undef)
  | .cell p t=>do loadVar t (<- asAddr (a.tmps.getD p undef)):ResultVar->Sem Value)).run C.P w=.ok us w/\az g xs us/\k xs
 | [],k,hk=>⟨[],[],by simp,by simp [az],hk⟩
 | .tmp t::rs,k,hk=>by
   obtain ⟨us,xs,h1,h2,h3⟩:=Aj h hr rs _ hk
   exact ⟨a.tmps.getD t undef::us,ρ.get t::xs,by simp only [List.mapM_cons,bN,ck,ca,h1],by simp only [az]; exact ⟨_,_,rfl,hr t,h2⟩,h3⟩
 | .cell p t::rs,k,hk=>by
   obtain ⟨u,x,h4,h5,h6⟩:=MX h (hr p) hk
   obtain ⟨us,xs,h1,h2,h3⟩:=Aj h hr rs _ h6
   simp only [bN] at h4
   exact ⟨u::us,x::xs,by simp only [List.mapM_cons,bN,ck,h4,ca,h1],by simp only [az]; exact ⟨_,_,rfl,h5,h2⟩,h3⟩
theorem zH (h:a8 g U w) {a:Act} (hr:ga g ρ a.tmps) {fn:Func} {k:List AV->Prop} (hk:ue C.P ρ U fn.results.toList k) :
 ∃ u xs,(results fn a.tmps).run C.P w=.ok u w/\ay g (ug xs) u/\k xs:=by
 obtain ⟨us,xs,h1,h2,h3⟩:=Aj h hr _ k hk
 have e:(results fn a.tmps).run C.P w=.ok (if h:us.toArray.size=1 then us.toArray[0] else .tuple us.toArray) w:=by
  unfold results
  rw [Array.mapM_eq_mapM_toList]
  simp only [bN,Sem.run_map,ck]
  erw [h1]
  rfl
 refine ⟨_,xs,e,?_,h3⟩
 match xs,us,h2 with
 | [],us,h2 =>
   simp only [az] at h2; subst h2
   simp [ug,ay,az]
 | [x],us,h2 =>
   simp only [az] at h2
   obtain ⟨u,_,rfl,h4,rfl⟩:=h2
   simpa [ug] using h4
 | x::y::zs,us,h2 =>
   have hl:=h2.length
   rw [dif_neg (by simp at hl ⊢; omega)]
   simp only [ug,ay]
   exact ⟨us,rfl,h2⟩
theorem zR (args:List AV) (vs:List Value) (n:Nat) (ha:az g args vs):ga g (Env.iJ args) (vs.toArray++Array.replicate n undef):=fun t=>by
 simp only [Env.iJ,Array.getD_eq_getD_getElem?,qf,Array.getElem?_append,List.size_toArray,List.getElem?_toArray]
 have hl:=ha.length
 by_cases ht:t < vs.length
 . rw [if_pos ht]
   obtain ⟨x,hx⟩:∃ x,args[t]?=some x:=⟨args[t]'(by omega),by simp⟩
   obtain ⟨v,hv,hr⟩:=ha.get hx
   rw [hx,hv]; exact hr
 . rw [if_neg ht,wb (by omega)]
   simp only [Option.getD_none]
   have:((Array.replicate n undef)[t - vs.length]?).getD undef=undef:=by
    rw [Array.getElem?_replicate]; split <;> rfl
   rw [this]; exact tq
theorem pC {fn:Func} {a:Act} {R:cA->St->Prop} (g0:Gh):∀ (ms:List Nat) (g:Gh) (w:World) (u:FrameMode),ms.Nodup->(∀ r ∈ ms,g.res r=true/\g0.res r=false)->Gh.Le g0 g->a8 g U w->ga g ρ a.tmps ->
 ((u=.returning/\ue C.P ρ U fn.results.toList fun vs=>∃ x ad,mR (ug vs) U x ad/\R (.ret x) ad)\/(∃ x v,u=.panicking [{ v,recovered:=false }]/\ay g x v/\R (.panic x) U)) ->
 LeavesInM Fence.wide 0 C.P fn a.tmps (nH g0 R) (ms.map Eu) u w
 | [],g,w,u,_,_,hle,hs,hr,h=>by
   simp only [lq,LeavesInM]
   rcases h with ⟨rfl,h⟩ | ⟨x,v,rfl,hx,h⟩
   . obtain ⟨v,xs,gi,hv,x,ad,ht,hR⟩:=zH hs hr h
     obtain ⟨g',JW,dY,hx⟩:=ht g w v hs hv
     exact ⟨v,gi,g',ad,x,hle.trans JW,dY,hx,hR⟩
   . exact ⟨g,U,x,v,rfl,hle,hs,hx,h⟩
 | r::ms,g,w,u,hnd,xI,hle,hs,hr,h=>by
   simp only [dV,LeavesInM]
   refine ⟨by rcases h with ⟨rfl,_⟩ | ⟨_,_,rfl,_⟩ <;> simp,.inl ⟨r,{ w with heap:=w.heap.setIfInBounds r (Obj.deferred none) },rfl,?_,?_⟩⟩
   . obtain ⟨_,hh⟩:=hs.res r (xI r (by simp)).1
     simp [Instr.takeDeferred,getObj,setObj,bN,Sem.run,hh,Result.andThen]
   . have hlR:Gh.rT g { g with res:=fun x=>if x=r then false else g.res x }:=⟨fun _ _ h=>h,fun _ _ _ h=>h,fun _ _ h=>h⟩
     refine pC g0 ms { g with res:=fun x=>if x=r then false else g.res x } _ u (List.nodup_cons.1 hnd).2 (fun q hq=>?_) ?_ (hs.shut (xI r (by simp)).1) (fun t=>(hr t).ep hlR) ?_
     . refine ⟨?_,(xI q (by simp [hq])).2⟩
       show (if q=r then false else g.res q)=true
       rw [if_neg (fun e:q=r=>by subst e; exact (List.nodup_cons.1 hnd).1 hq)]
       exact (xI q (by simp [hq])).1
     . refine ⟨hle.base,hle.w0,hle.place,hle.bS,hle.bI,fun q hq=>?_,hle.xQ,hle.uP⟩
       show (if q=r then false else g.res q)=true
       have bT:q ≠ r:=fun e=>by subst e; rw [(xI q (by simp)).2] at hq; cases hq
       rw [if_neg bT]
       exact hle.res q hq
     . rcases h with h | ⟨x,v,h1,h2,h3⟩
       . exact .inl h
       . exact .inr ⟨x,v,h1,h2.ep hlR,h3⟩
theorem ae.IZ {f:FuncId} {fn:Func} {c:Code} {args:List AV} {R:cA->St->Prop} (hf:C.P.funcs[f]?=some fn) (hb:fn.body=some c) (hlen:args.length <= fn.ntmps)
 (h:bo C fn.ntmps .fn c (adT C.P fn R) (Env.iJ args) U):ae C f args U R:=by
 intro g w vs hs hG ha
 have hl:=ha.length
 refine callsIn_of_wp_marks hf hb trivial ?_
 have Cl:=zR args vs (fn.ntmps - args.length) ha
 have:=h g w { tmps:=vs.toArray++Array.replicate (fn.ntmps - vs.toArray.size) undef,defers:=[] } none hs hG (by
  have e:vs.toArray.size=args.length:=by simpa using hl
  rw [e]; exact Cl) (by simp; omega) trivial
 refine wpIn_mono this ?_
 rintro e a w' ⟨k1,g',ad,dx,ms,k2,k3,k4,k5,k6,k7⟩
 simp only [ia] at k2
 cases e with
 | normal =>
   show LeavesInM _ _ _ _ _ _ a.defers _ _
   rw [k2]
   exact pC g ms g' w' _ k3.nodup k3.res k4 k5 k6 (.inl ⟨rfl,k7⟩)
 | ret =>
   show LeavesInM _ _ _ _ _ _ a.defers _ _
   rw [k2]
   exact pC g ms g' w' _ k3.nodup k3.res k4 k5 k6 (.inl ⟨rfl,k7⟩)
 | panic ch =>
   obtain ⟨x,v,rfl,hx,hR⟩:=k7
   show LeavesInM _ _ _ _ _ _ a.defers _ _
   rw [k2]
   exact pC g ms g' w' _ k3.nodup k3.res k4 k5 k6 (.inr ⟨x,v,rfl,hx,hR⟩)
 | exit id=>exact k7.elim
 | goto l=>exact k7.elim
 | outgrown=>exact k7.elim
def Pure (C:cq) (f:FuncId) (args:List AV) (x:AV):Prop:=∀ U R,R (.ret x) U->ae C f args U R
end
end Go.Rip
namespace Go.Rip
open Go.RowKit
section
variable {C:cq} {g:Gh} {U:St} {w:World} {nt:Nat} {ro:Ro} {Q:Ex->Env->St->Prop} {ρ:Env}
def Za (o:Nat) (Q:Ex->Env->St->Prop) (ρ:Env):cA->St->Prop
 | .ret _,ad=>∃ L,ad.loop o=some L/\L.state ≠ .busy/\(match L.fe with
   | none=>Q .normal ρ (ad.del o)
   | some .ret=>Q .ret ρ (ad.del o)
   | some (.exit id)=>Q (.exit id) ρ (ad.del o)
   | _=>False)
 | .panic x,ad=>Q (.panic x) ρ ad
theorem a8.Qq (h:a8 g U w) {o:Nat} {L:eG} {p:Place} (ho:U.loop o=some L) (hp:g.place o=some p) (x:Loop) :
 a8 g (U.del o) { w with heap:=w.heap.setIfInBounds p.aE (.loop x) }:=by
 obtain ⟨p',k1,k2,fn,tmps,defers,k3,_⟩:=h.live o _ (St.lJ.1 ho)
 rw [hp] at k1; cases k1
 refine (h.weaken (St.rV U o)).change p.aE k2 (Gh.Le.refl g) rfl rfl ⟨rfl,rfl,rfl,by simp⟩ (fun k hk _=>Array.getElem?_setIfInBounds_ne (Ne.symm hk)) (fun _ _ _=>rfl) (fun _ _=>rfl) (fun q u hu=>?_) (fun es c hr=>?_) (fun b' x' p' h1 h2 e=>?_) (h.sG (St.lJ.1 ho) hp)
 . have:=(h.bS _ _ _ hu).1; simp [World.cell?,k3] at this
 . have:=(h.bI _ _ _ hr).1; rw [k3] at this; cases this
 . simp only [St.del] at h1
   split at h1
   . cases h1
   . rename_i ne; exact ne (h.apart _ _ _ _ _ _ h1 (St.lJ.1 ho) h2 hp e)
theorem a8.qi (h:a8 g U w) {o:Nat} {L L':eG} {p:Place} (ho:U.loop o=some L) (hp:g.place o=some p) {fn:FuncId} {tmps:Array Value} {defers:Nat}
 (hn:tmps.size=L'.nt) (hr:∀ t,ay g (L'.ρ t) (tmps.getD t undef)) :
 a8 g (U.set o (.loop L')) { w with heap:=w.heap.setIfInBounds p.aE (.loop { state:=L'.state,pending:=L'.fe,fn,tmps,params:=L'.params,assign:=L'.assign,body:=L'.body,defers }) }:=by
 obtain ⟨p',k1,k2,SC,EA,yE,k3,_⟩:=h.live o _ (St.lJ.1 ho)
 rw [hp] at k1; cases k1
 have aO:=(jR.1 k3).1
 refine h.rewrite (St.lJ.1 ho) hp ⟨rfl,rfl,rfl,by simp⟩ (fun k hk _=>Array.getElem?_setIfInBounds_ne (Ne.symm hk)) (fun q=>?_) ?_ ⟨fn,tmps,defers,by simp [aO],hn,hr⟩
 . cases e:g.bS p.aE q with
   | none=>rfl
   | some u=>have:=(h.bS _ _ _ e).1; simp [World.cell?,k3] at this
 . cases e:g.bI p.aE with
   | none=>rfl
   | some u=>have:=(h.bI _ _ _ e).1; rw [k3] at this; cases this
theorem bo.rangeFunc (tag:Nat) {f:Operand} {ps:Array Tmp} {assign body:Code} {jl:FuncId} {first cap:List AV} (hf:ρ.ev C f=.func (.func jl) first cap) (sc:dU C.P jl=true)
 (h:∀ o,U.cY o->ae C jl (first++[.pX o]++cap) (U.new o (.loop ⟨ρ.get,nt,ps,assign,body,.ready,none,tag⟩)) (Za o Q ρ)):bo C nt .fn (.rangeFunc f ps assign body) Q ρ U:=by
 intro g w a fr hs hG hr hn wN
 cases fr with
 | some l=>exact wN.elim
 | none =>
 have XV:=rX hG hr f
 rw [hf] at XV
 simp only [ay] at XV
 obtain ⟨fs,cs,hval,Mi,sb⟩:=XV
 refine wpIn_rangeFunc fun fn _=>?_
 obtain ⟨FI,xL⟩:=hs.U1
 have hrE:=hr.mono FI
 obtain ⟨o,g2,f1,f2,f3,f4⟩:=xL.sr (.loop { state:=.ready,pending:=none,fn:=fn,tmps:=a.tmps,params:=ps,assign,body,defers:=w.heap.size }) 0 0 (.loop ⟨ρ.get,nt,ps,assign,body,.ready,none,tag⟩)
  fun g' hle _ _=>⟨fn,a.tmps,w.heap.size,heap_alloc_new _ _,hn,fun t=>(hrE t).mono hle⟩
 have sf:=FI.trans f2
 obtain ⟨Fq,hfn,IA,SX⟩:∃ Fq,C.P.funcs[jl]?=some Fq/\Fq.body.isNone=false/\(Fq.name == "runtime.NumGoroutine")=false:=by
  unfold dU at sc
  split at sc
  . rename_i Fq hfn
    simp only [bL,Bool.not_eq_true'] at sc
    exact ⟨Fq,hfn,by cases hb:Fq.body <;> simp_all,sc.2⟩
  . cases sc
 refine ⟨w.heap.size+1,[{ target:=.collected w.heap.size,args:=#[] }],((w.alloc (.deferred (some []))).alloc (.loop { state:=.ready,pending:=none,fn:=fn,tmps:=a.tmps,params:=ps,assign,body,defers:=w.heap.size })),
  { target:=.fn (.func jl) cs.toArray,args:=fs.toArray++#[.func (.yield (w.heap.size+1)) #[] #[]] },((w.alloc (.deferred (some []))).alloc (.loop { state:=.ready,pending:=none,fn:=fn,tmps:=a.tmps,params:=ps,assign,body,defers:=w.heap.size })),jl,(fs.toArray++#[.func (.yield (w.heap.size+1)) #[] #[]])++cs.toArray,((w.alloc (.deferred (some []))).alloc (.loop { state:=.ready,pending:=none,fn:=fn,tmps:=a.tmps,params:=ps,assign,body,defers:=w.heap.size })),?_,?_,fun _ _=>trivial,?_,fun hd=>by simp [FW,Fence.wide] at hd,?_⟩
 . simp only [Instr.enterLoop,FW,bN,run_newObj,ck,ca]
   rw [Array.size_push]
   rfl
 . simp only [resolve,rangeCall,List.map_toArray,dV,lq]
   rw [hval]
   simp only [Deferred.ofValue,ck]
   rfl
 . simp only [invoke,callFunc,bN,ck,ca,run_program,hfn,SX,IA,bJ,if_false,eD]
 . have hc:=h o f1 g2 _ (fs++[Value.func (.yield (w.heap.size+1)) #[] #[]]++cs) f4 (hG.mono sf) (((Mi.mono sf).append (by
    simp only [az]
    exact ⟨_,_,rfl,by simp only [ay]; exact ⟨_,f3,by simp⟩,rfl⟩)).append (sb.mono sf))
   have e:(fs++[Value.func (.yield (w.heap.size+1)) #[] #[]]++cs).toArray=fs.toArray++#[Value.func (.yield (w.heap.size+1)) #[] #[]]++cs.toArray:=by simp
   rw [e] at hc
   have wK:CallsIn (FW none) 0 C.P jl _ _ _:=hc
   refine wK.mono ?_
   rintro e w3 hp
   have Mu:∀ g3,Gh.Le g2 g3->nA false g g3 [w.heap.size]:=fun g3 hl=>⟨fun h=>(by cases h),by simp,fun r hr=>by
    simp only [jg] at hr; subst hr
    exact ⟨hl.res _ (f2.res _ (by simp)),hs.CG (dk _)⟩⟩
   cases e with
   | returned v =>
     obtain ⟨g3,bZ,x,h1,h2,h3,L,h4,h5,h6⟩:=hp
     obtain ⟨p,q1,q2,SC,EA,yE,q3,q4,q5⟩:=h2.live o _ (St.lJ.1 h4)
     have k9:g3.place o=some ⟨w.heap.size+1,0,0⟩:=h1.place _ _ (by rw [f3]; simp)
     rw [k9] at q1; cases q1
     have uI:(getObj (w.heap.size+1)).run C.P w3=.ok (.loop { state:=L.state,pending:=L.fe,fn:=SC,tmps:=EA,params:=L.params,assign:=L.assign,body:=L.body,defers:=yE }) w3:=by simp [getObj,Sem.run,q3]
     have FZ:∀ x,(setObj (w.heap.size+1) x).run C.P w3=.ok () { w3 with heap:=w3.heap.setIfInBounds (w.heap.size+1) x }:=fun x=>by simp [setObj,Sem.run,q3]
     have abc:(L.state == LoopState.busy)=false:=by
      cases hL:L.state <;> first
       | rfl
       | exact absurd hL h5
     have FD:(Instr.endLoop (w.heap.size+1)).run C.P w3=.ok L.fe { w3 with heap:=w3.heap.setIfInBounds (w.heap.size+1) (.loop { state:=.exhausted,pending:=L.fe,fn:=SC,tmps:=EA,params:=L.params,assign:=L.assign,body:=L.body,defers:=yE }) }:=by
      simp only [Instr.endLoop,Instr.getLoop,bN,uI,ca,ck,abc,bJ,if_false,eD,FZ]
     have Yn:=h2.Qq h4 k9 { state:=.exhausted,pending:=L.fe,fn:=SC,tmps:=EA,params:=L.params,assign:=L.assign,body:=L.body,defers:=yE }
     have post:∀ ex,Fk g3 Q ρ (bZ.del o) ex->pH g nt false a.defers Q ex { a with defers:=[{ target:=.collected w.heap.size,args:=#[] }]++a.defers } _:=fun ex hq =>
      ⟨hn,g3,bZ.del o,ρ,[w.heap.size],rfl,Mu g3 h1,sf.trans h1,Yn,hr.mono (sf.trans h1),hq⟩
     refine ⟨L.fe,_,FD,?_⟩
     generalize L.fe=fe at h6 post ⊢
     cases fe with
     | none=>exact post .normal h6
     | some c =>
       cases c <;> first
        | exact h6.elim
        | exact wpIn_exit (post (.exit _) h6)
        | exact wpIn_ret (post .ret h6)
   | panicked ch =>
     obtain ⟨g3,bZ,x,v,rfl,h1,h2,h3,h4⟩:=hp
     exact ⟨hn,g3,bZ,ρ,[w.heap.size],rfl,Mu g3 h1,sf.trans h1,h2,hr.mono (sf.trans h1),x,v,rfl,h3,h4⟩
   | outgrown=>exact hp.elim
def vY (ρ:Nat->AV):List Tmp->List AV->Nat->AV
 | t::ts,v::vs=>vY (fun x=>if x=t then v else ρ x) ts vs
 | _,_=>ρ
theorem GA {ρ:Nat->AV} {tmps:Array Value}:∀ (ps:List Tmp) (args:List AV) (vs:List Value) (ρ:Nat->AV) (tmps:Array Value),(∀ t,ay g (ρ t) (tmps.getD t undef))->(∀ t ∈ ps,t < tmps.size)->az g args vs ->
 ((ps.zip vs).foldl (fun (tmps:Array Value) (p:Tmp × Value)=>tmps.setIfInBounds p.1 p.2) tmps).size=tmps.size/\∀ t,ay g (vY ρ ps args t) (((ps.zip vs).foldl (fun (tmps:Array Value) (p:Tmp × Value)=>tmps.setIfInBounds p.1 p.2) tmps).getD t undef)
 | [],args,vs,ρ,tmps,h,_,_=>by simpa [vY] using h
 | t::ts,[],vs,ρ,tmps,h,_,ha=>by
   simp only [az] at ha; subst ha
   simpa [vY] using h
 | t::ts,x::args,vs,ρ,tmps,h,hl,ha=>by
   simp only [az] at ha
   obtain ⟨v,vs,rfl,hx,ha⟩:=ha
   simp only [List.zip_cons_cons,List.foldl_cons,vY]
   have h1:∀ t',ay g ((fun y=>if y=t then x else ρ y) t') ((tmps.setIfInBounds t v).getD t' undef):=(ga.put (g:=g) (ρ:=⟨ρ⟩) h (hl t (by simp)) hx)
   obtain ⟨h2,h3⟩:=GA (ρ:=ρ) (tmps:=tmps) ts args vs _ (tmps.setIfInBounds t v) h1 (fun t' o3=>by simpa using hl t' (by simp [o3])) ha
   exact ⟨by rw [h2]; simp,h3⟩
def Zc (o:Nat) (R:cA->St->Prop):Ex->Env->St->Prop
 | .normal,_,U=>∃ L,U.loop o=some L/\R (.ret (.bool true)) (U.set o (.loop { L with state:=.ready,fe:=none }))
 | .ret,_,U=>∃ L,U.loop o=some L/\R (.ret (.bool false)) (U.set o (.loop { L with state:=.done,fe:=some .ret }))
 | .exit id,_,U=>∃ L,U.loop o=some L/\R (.ret (.bool false)) (U.set o (.loop { L with state:=.done,fe:=some (.exit id) }))
 | .panic _,_,_=>False
def Uq (C:cq) (o:Nat) (body:Code) (nt:Nat) (R:cA->St->Prop):Ex->Env->St->Prop
 | .normal,ρ,U=>∃ L,U.loop o=some L/\L.state=.ready/\bo C nt (.round o) body (Zc o R) ρ (U.set o (.loop { L with state:=.busy }))
 | _,_,_=>False
theorem kV.Gt {o:Nat} {args:List AV} {R:cA->St->Prop} {L:eG} (hL:U.loop o=some L) (hargs:args.length=L.params.size) (Mx:∀ t ∈ L.params.toList,t < L.nt)
 (h:bo C L.nt (.round o) L.assign (Uq C o L.body L.nt R) ⟨vY L.ρ L.params.toList args⟩ U):kV C o args U R:=by
 intro g w vs x hs hG ha hx
 obtain ⟨p,k1,k2,fn,tmps,defers,k3,k4,k5⟩:=hs.live o _ (St.lJ.1 hL)
 rw [hx] at k1; cases k1
 have uI:(getObj x.aE).run C.P w=.ok (.loop { state:=L.state,pending:=L.fe,fn,tmps,params:=L.params,assign:=L.assign,body:=L.body,defers }) w:=by simp [getObj,Sem.run,k3]
 have dQ:vs.length=L.params.size:=by rw [ha.length,hargs]
 obtain ⟨z1,z2⟩:=GA (g:=g) (ρ:=L.ρ) (tmps:=tmps) L.params.toList args vs L.ρ tmps k5 (fun t ht=>by rw [k4]; exact Mx t ht) ha
 have aa4:(L.params.zip vs.toArray).foldl (fun (tmps:Array Value) (p:Tmp × Value)=>tmps.setIfInBounds p.1 p.2) tmps=(L.params.toList.zip vs).foldl (fun (tmps:Array Value) (p:Tmp × Value)=>tmps.setIfInBounds p.1 p.2) tmps:=by
  rw [<- Array.foldl_toList]; congr 1; simp
 refine ⟨fn,(L.params.toList.zip vs).foldl (fun (tmps:Array Value) (p:Tmp × Value)=>tmps.setIfInBounds p.1 p.2) tmps,L.assign,L.body,?_,?_⟩
 . simp only [Instr.yield,Instr.getLoop,bN,uI,ca,ck,List.size_toArray,dQ,ne_eq,not_true_eq_false,if_false,eD]
   rw [<- aa4]
 . refine roundIn_of_wpIn trivial ?_
   have h1:=h g w { tmps:=(L.params.toList.zip vs).foldl (fun (tmps:Array Value) (p:Tmp × Value)=>tmps.setIfInBounds p.1 p.2) tmps,defers:=[] } (some x.aE) hs hG z2 (by rw [<- k4]; exact z1) ⟨x,hx,rfl⟩
   have r9:L.assign.wpIn (Fence.wide.inRound x.aE) 0 C.P _ _ _:=h1
   refine wpIn_mono r9 ?_
   rintro e a1 w1 ⟨q1,g1,aP,ρ1,ms,q2,q3,q4,q5,q6,q7⟩
   cases e with
   | normal =>
     obtain ⟨L1,r1,r2,r3⟩:=q7
     obtain ⟨p,k1,k2,fn,tmps,defers,k3,k4,k5⟩:=q5.live o _ (St.lJ.1 r1)
     rw [q4.place _ _ hx] at k1; cases k1
     have uI:(getObj x.aE).run C.P w1=.ok (.loop { state:=L1.state,pending:=L1.fe,fn,tmps,params:=L1.params,assign:=L1.assign,body:=L1.body,defers }) w1:=by simp [getObj,Sem.run,k3]
     have FZ:∀ y,(setObj x.aE y).run C.P w1=.ok () { w1 with heap:=w1.heap.setIfInBounds x.aE y }:=fun y=>by simp [setObj,Sem.run,k3]
     have xM:=q5.qi (L':={ L1 with state:=.busy }) (fn:=fn) (defers:=defers) r1 (q4.place _ _ hx) k4 k5
     refine ⟨_,by simp only [Instr.beginRound,Instr.getLoop,bN,uI,ca,ck,FZ,r2]; rfl,?_⟩
     have h2:=r3 g1 _ a1 (some x.aE) xM (hG.mono q4) q6 q1 ⟨x,q4.place _ _ hx,rfl⟩
     have zg:L.body.wpIn (Fence.wide.inRound x.aE) 0 C.P _ _ _:=h2
     refine wpIn_mono zg ?_
     rintro e a2 w2 ⟨Tw,g2,aZ,pT,Gn,YW,q3',q4',q5',q6',Ja⟩
     have hx2:=(q4.trans q4').place _ _ hx
     have fin:∀ (L2:eG) (jump:Option Code) (st:LoopState),aZ.loop o=some L2->(if jump.isNone then LoopState.ready else .done)=st->R (.ret (.bool jump.isNone)) (aZ.set o (.loop { L2 with state:=st,fe:=jump })) ->
      ∃ v w',(Instr.endRound x.aE jump).run C.P w2=.ok v w'/\nH g R (.returned v) w':=fun L2 jump st hl fg hR=>by
      obtain ⟨p,k1,k2,fn,tmps,defers,k3,k4,k5⟩:=q5'.live o _ (St.lJ.1 hl)
      rw [hx2] at k1; cases k1
      have uI:(getObj x.aE).run C.P w2=.ok (.loop { state:=L2.state,pending:=L2.fe,fn,tmps,params:=L2.params,assign:=L2.assign,body:=L2.body,defers }) w2:=by simp [getObj,Sem.run,k3]
      have FZ:∀ y,(setObj x.aE y).run C.P w2=.ok () { w2 with heap:=w2.heap.setIfInBounds x.aE y }:=fun y=>by simp [setObj,Sem.run,k3]
      have Yn:=q5'.qi (L':={ L2 with state:=st,fe:=jump }) (fn:=fn) (defers:=defers) hl hx2 k4 k5
      refine ⟨.bool jump.isNone,_,by simp only [Instr.endRound,Instr.getLoop,bN,uI,ca,ck,FZ,fg],g2,_,.bool jump.isNone,q4.trans q4',Yn,by simp only [ay],hR⟩
     cases e with
     | normal=>obtain ⟨L2,hl,hR⟩:=Ja; exact fin L2 none .ready hl rfl hR
     | ret=>obtain ⟨L2,hl,hR⟩:=Ja; exact fin L2 (some .ret) .done hl rfl hR
     | exit id=>obtain ⟨L2,hl,hR⟩:=Ja; exact fin L2 (some (.exit id)) .done hl rfl hR
     | panic ch=>obtain ⟨x,v,_,_,hf⟩:=Ja; exact hf.elim
     | goto l=>exact Ja.elim
     | outgrown=>exact Ja.elim
   | panic ch=>obtain ⟨x,v,_,_,hf⟩:=q7; exact hf.elim
   | ret=>exact q7.elim
   | exit id=>exact q7.elim
   | goto l=>exact q7.elim
   | outgrown=>exact q7.elim
end
end Go.Rip
namespace Go.Rip
open Go.RowKit
section
variable {C:cq} {g:Gh} {U ad:St} {w:World} {nt:Nat} {nm:Bool} {ro:Ro} {fr:Option Nat} {Q:Ex->Env->St->Prop} {ρ dx:Env} {mu:Bool}
theorem so {l:List Operand} (h:∀ x ∈ l,ρ.ev C x=dx.ev C x):l.map (ρ.ev C)=l.map (dx.ev C):=List.map_congr_left h
theorem wG {parts:Array (Nat × Operand)} (h:∀ x ∈ (parts.toList.map (·.2)).toArray,ρ.ev C x=dx.ev C x):kZ C ρ parts=kZ C dx parts:=by
 unfold kZ
 apply List.map_congr_left
 intro p hp
 rw [h p.2 (by simp; exact ⟨p.1,by simpa using hp⟩)]
theorem Ni (o:Op) (h:∀ x ∈ o.operands,ρ.ev C x=dx.ev C x):iK C mu o ρ U=iK C mu o dx U:=by
 cases o with
 | call c =>
   obtain ⟨callee,⟨args⟩,⟨Ud⟩⟩:=c
   simp only [iK,yD]
   have ha:args.map (ρ.ev C)=args.map (dx.ev C):=so fun x hx=>h x (by simp only [Op.operands,Call.operands]; rw [Array.mem_append]; exact .inr (by simpa using hx))
   cases callee with
   | value f =>
     show gr C.P (ρ.ev C f) (args.map (ρ.ev C))=gr C.P (dx.ev C f) (args.map (dx.ev C))
     rw [ha,h f (by simp [Op.operands,Call.operands])]
   | invoke r m=>rfl
   | builtin b =>
     have hm:∀ x ∈ args,ρ.ev C x=dx.ev C x:=fun x hx=>h x (by simp only [Op.operands,Call.operands]; rw [Array.mem_append]; exact .inr (by simpa using hx))
     split <;> simp_all
 | build t parts=>simp only [iK]; rw [wG h]
 | buildSlice t n parts=>simp only [iK]; rw [wG h]
 | makeFunc fn first cap =>
   simp only [iK]
   rw [so (l:=first.toList) fun x hx=>h x (by simp [Op.operands]; exact .inl (by simpa using hx)),so (l:=cap.toList) fun x hx=>h x (by simp [Op.operands]; exact .inr (by simpa using hx))]
 | slice t x lo hi m =>
   cases m with
   | some _=>rfl
   | none =>
     simp only [iK]
     have h1:=h x (by simp [Op.operands])
     have h2:lo.map (ρ.ev C)=lo.map (dx.ev C):=by
      cases lo with
      | none=>rfl
      | some y=>simp only [Option.map_some]; rw [h y (by simp [Op.operands])]
     have h3:hi.map (ρ.ev C)=hi.map (dx.ev C):=by
      cases hi with
      | none=>rfl
      | some y=>simp only [Option.map_some]; rw [h y (by simp [Op.operands])]
     rw [h1,h2,h3]
 | makeMap t r=>cases r <;> rfl
 | next i b=>cases b <;> simp_all [iK,Op.operands]
 | _=>simp_all [iK,Op.operands]
def cM:AV->List Nat
 | .box b _=>[b]
 | .ms b _ _ _ _=>[b]
 | .mp m=>[m]
 | .it o=>[o]
 | .vec _ (.own τ) _=>[τ]
 | _=>[]
theorem Uu {b:Nat} (h:ad.live b=U.live b):ad.box b=U.box b:=by simp only [St.box,h]
theorem Hq {p:AV} (h:∀ b ∈ cM p,ad.live b=U.live b):kX ad p=kX U p:=by
 cases p <;> simp only [kX]
 rw [Uu (h _ (by simp [cM]))]
def quiet:Op->Bool
 | .move _ | .assign _ | .pick .. | .load .. | .build .. | .buildSlice .. | .fieldAddr .. | .field .. | .indexAddr .. | .index .. | .binOp .. | .unOp .. | .convert .. | .nilCheck _ | .lookup .. | .extract .. | .makeInterface .. | .makeFunc ..
 | .slice ..=>true
 | .call c=>match c.callee with
   | .value _=>true
   | .builtin .len | .builtin .min | .builtin .max=>true
   | _=>false
 | _=>false
def nI:Op->Bool
 | .load .. | .lookup ..=>true
 | _=>false
theorem Ve (o:Op) (hq:quiet o=true) (h:nI o=true->∀ x ∈ o.operands,∀ b ∈ cM (ρ.ev C x),ad.live b=U.live b):iK C mu o ρ ad=iK C mu o ρ U:=by
 cases o with
 | call c =>
   obtain ⟨callee,⟨args⟩,⟨Ud⟩⟩:=c
   simp only [iK,yD]
   cases callee with
   | value f=>rfl
   | invoke r m=>rfl
   | builtin b =>
     cases b <;> simp only [quiet,bJ] at hq
     all_goals (split <;> first
      | rfl
      | (simp only [Gg]; done)
      | contradiction
      | simp_all)
 | load t a =>
   simp only [iK,td]
   rw [Hq (h rfl a (by simp [Op.operands]))]
 | lookup t m k ok =>
   have:=h rfl m (by simp [Op.operands])
   simp only [iK,uW]
   generalize ρ.ev C m=y at this ⊢
   cases y <;> simp_all [cM,St.mp,jb]
 | slice t x lo hi m=>cases m <;> rfl
 | _=>first | rfl | simp [quiet] at hq
theorem aD.wp_mono {K K':AV->St->Prop} {Kp:AV->St->Prop} (hk:∀ v U,K v U->K' v U):∀ (r:aD) {U:St},r.wp C U K Kp->r.wp C U K' Kp
 | .val _,_,h=>hk _ _ h
 | .gx _ _ _,_,h=>hk _ _ h
 | .new _ _ _,_,h=>fun b hb=>hk _ _ (h b hb)
 | .ki _ _,_,h=>fun p hp=>hk _ _ (h p hp)
 | .enter _ _,_,h=>ae.mono h fun r U hr=>by cases r <;> first | exact hk _ _ hr | exact hr
 | .yield _ _,_,h=>kV.mono h fun r U hr=>by cases r <;> first | exact hk _ _ hr | exact hr
 | .panic _,_,h=>h
 | @aD.cond _ _ r,_,h=>⟨h.1,aD.wp_mono hk r h.2⟩
 | .bad,_,h=>h
theorem Io {x:Operand} {dst:Option Tmp} {v:AV} (h:∀ d,dst=some d->x ≠ .tmp d):(ρ.dM dst v).ev C x=ρ.ev C x:=by
 cases dst with
 | none=>rfl
 | some d =>
   cases x <;> simp only [Env.dM,Env.put,Env.ev]
   rename_i t
   rw [if_neg (fun e=>h d rfl (by rw [e]))]
theorem I8 (ops:Array Oper) (o:Oper) {dst:Option Tmp} {v:AV} (h:∀ d,dst=some d->d ∉ o.looksAt ops):iK C mu o.op (ρ.dM dst v) U=iK C mu o.op ρ U :=
 Ni o.op fun x hx=>Io fun d hd Yt=>h d hd (by
  subst Yt
  exact List.mem_append_left _ (List.mem_filterMap.2 ⟨.tmp d,by simpa using hx,rfl⟩))
theorem Db (ops:Array Oper) (o:Oper) {dst:Option Tmp} {v:AV} (h:∀ d,dst=some d->d ∉ o.looksAt ops):gq ops (ρ.dM dst v) o.guard=gq ops ρ o.guard:=by
 cases dst with
 | none=>rfl
 | some d =>
   have hd:=h d rfl
   unfold gq
   cases hg:o.guard with
   | none=>rfl
   | some jw =>
     obtain ⟨j,want⟩:=jw
     simp only
     cases hb:(ops[j]?).bind (·.dst) with
     | none=>rfl
     | some t =>
       have bT:t ≠ d:=fun e=>by
        subst e
        apply hd
        unfold Oper.looksAt
        rw [hg]
        simp only [hb,Option.toList_some,fB,jg,or_true]
       simp only [Env.dM,Env.put,if_neg bT]
theorem Nu {d d':Option Tmp} {v v':AV} (h:∀ t,d=some t->d' ≠ some t):(ρ.dM d v).dM d' v'=(ρ.dM d' v').dM d v:=by
 cases d <;> cases d' <;> simp only [Env.dM]
 rename_i a b
 have bT:b ≠ a:=fun e=>h a rfl (by rw [e])
 simp only [Env.put,Env.mk.injEq]
 funext t
 by_cases h1:t=b
 . subst h1; rw [if_pos rfl,if_neg bT,if_pos rfl]
 . rw [if_neg h1]
   by_cases h2:t=a
   . rw [if_pos h2,if_pos h2]
   . rw [if_neg h2,if_neg h2,if_neg h1]
def mC (mu:List Nat) (o:Oper):Bool:=match o.dst with | some d=>mu.contains d | none=>false
def jZ (C:cq) (mu:List Nat) (ops:Array Oper) (I:St->Prop) (i:Nat) (K:Env->St->Prop) (Kp:AV->St->Prop) (ρ:Env) (U:St):Prop :=
 match ops[i]? with
 | none=>K ρ U
 | some o=>av (gq ops ρ o.guard) ((iK C (mC mu o) o.op ρ U).wp C U (fun v ad=>I ad/\K (ρ.dM o.dst v) ad) Kp) (K (ρ.dM o.dst (.aF [])) U)
def Tt (o:Oper) (k:Nat):Bool:=o.after.toList.any fun e=>Region.binds .any e && Nat.beq e.on k
def qx (ops:Array Oper) (i:Nat):Bool:=match ops[i]? with
 | some o=>(List.range ops.size).all fun k=>Nat.beq k i || (Tt o k || o.after.toList.any fun e=>Region.binds .any e && (match ops[e.on]? with | some m=>Tt m k | none=>false))
 | none=>false
def Dn (ops:Array Oper) (listed:Array Bool):Prop:=∀ m o,ops[m]?=some o->listed.getD m false=true->∀ e ∈ o.after,Region.binds .any e=true->listed.getD e.on false=true
theorem Gv {o:Oper} {k:Nat} (h:Tt o k=true):∃ e ∈ o.after,Region.binds .any e=true/\e.on=k:=by
 unfold Tt at h
 rw [List.any_eq_true] at h
 obtain ⟨e,he,hb⟩:=h
 simp only [bL] at hb
 exact ⟨e,by simpa using he,hb.1,ey hb.2⟩
theorem ET {ops:Array Oper} {i:Nat} {listed:Array Bool} (hD:Dn ops listed) (hr:i ∈ Region.ready .any ops listed) (h:qx ops i=true) (k:Nat) (hk:k < ops.size) (bT:k ≠ i):listed.getD k false=true:=by
 obtain ⟨_,o,ho,bO⟩:=mem_ready.1 hr
 unfold qx at h
 rw [ho] at h
 simp only [eC,List.mem_range,iL] at h
 rcases h k hk with h | h | h
 . exact absurd (ey h) bT
 . obtain ⟨e,he,hb,Bc⟩:=Gv h
   rw [<- Bc]; exact bO e he hb
 . rw [List.any_eq_true] at h
   obtain ⟨e,he,hb⟩:=h
   rw [bL] at hb
   have h1:=bO e (by simpa using he) hb.1
   have h2:=hb.2
   split at h2
   . rename_i m hm
     obtain ⟨e',kO,eH,adi⟩:=Gv h2
     rw [<- adi]; exact hD _ m hm h1 e' kO eH
   . cases h2
def El (o:Oper):List Nat:=o.after.toList.filterMap fun e=>if Region.binds .any e=true then some e.on else none
def BM (ops:Array Oper):Nat->List Nat->List Nat
 | 0,l=>l
 | k+1,l=>BM ops k (if l.any (Nat.beq k)=true then (match ops[k]? with | some o=>El o++l | none=>l) else l)
def Ij (ops:Array Oper) (i:Nat):Bool:=match ops[i]? with
 | some o=>let l:=BM ops ops.size (El o); (List.range ops.size).all fun k=>Nat.beq k i || l.any (Nat.beq k)
 | none=>false
def mJ (ops:Array Oper) (i:Nat):Bool:=qx ops i || Ij ops i
theorem UP {ops:Array Oper} {i:Nat} (h:qx ops i=true):mJ ops i=true:=by unfold mJ; rw [h]; rfl
theorem CZ {o:Oper} {k:Nat} (h:k ∈ El o):∃ e ∈ o.after,Region.binds .any e=true/\e.on=k:=by
 unfold El at h
 rw [List.mem_filterMap] at h
 obtain ⟨e,he,h⟩:=h
 split at h
 . rename_i hb; exact ⟨e,by simpa using he,hb,by simpa using h⟩
 . cases h
theorem DZ {ops:Array Oper} {listed:Array Bool} (hD:Dn ops listed):∀ (k:Nat) (l:List Nat),(∀ x ∈ l,listed.getD x false=true)->∀ x ∈ BM ops k l,listed.getD x false=true
 | 0,l,h,x,hx=>h x hx
 | k+1,l,h,x,hx=>by
   rw [BM] at hx
   refine DZ hD k _ (fun y hy=>?_) x hx
   split at hy
   . rename_i hk
     rw [List.any_eq_true] at hk
     obtain ⟨z,hz,ME⟩:=hk
     obtain rfl:=ey ME
     split at hy
     . rename_i o ho
       rw [fB] at hy
       rcases hy with hy | hy
       . obtain ⟨e,he,hb,rfl⟩:=CZ hy
         exact hD _ o ho (h _ hz) e he hb
       . exact h y hy
     . exact h y hy
   . exact h y hy
theorem Bk {ops:Array Oper} {i:Nat} {listed:Array Bool} (hD:Dn ops listed) (hr:i ∈ Region.ready .any ops listed) (h:mJ ops i=true) (k:Nat) (hk:k < ops.size) (bT:k ≠ i):listed.getD k false=true:=by
 unfold mJ at h
 rw [iL] at h
 rcases h with h | h
 . exact ET hD hr h k hk bT
 obtain ⟨_,o,ho,bO⟩:=mem_ready.1 hr
 unfold Ij at h
 rw [ho] at h
 simp only [eC,List.mem_range,iL] at h
 rcases h k hk with h | h
 . exact absurd (ey h) bT
 . rw [List.any_eq_true] at h
   obtain ⟨z,hz,ME⟩:=h
   obtain rfl:=ey ME
   refine DZ hD ops.size _ (fun y hy=>?_) _ hz
   obtain ⟨e,he,hb,rfl⟩:=CZ hy
   exact bO e he hb
theorem Dn.set {ops:Array Oper} {listed:Array Bool} (hD:Dn ops listed) {i:Nat} (hr:i ∈ Region.ready .any ops listed):Dn ops (listed.setIfInBounds i true):=by
 intro m o ho hl e he hb
 obtain ⟨_,oi,S5,bO⟩:=mem_ready.1 hr
 by_cases hmi:i=m
 . subst hmi
   rw [S5] at ho; cases ho
   exact getD_set_true (bO e he hb)
 . rw [getD_set_ne false hmi] at hl
   exact getD_set_true (hD m o ho hl e he hb)
theorem Dn.none (ops:Array Oper) (n:Nat):Dn ops (Array.replicate n false):=by
 intro m o ho hl
 rw [Array.getD_eq_getD_getElem?,Array.getElem?_replicate] at hl
 split at hl <;> simp at hl
def Ix (ops:Array Oper) (I:St->Prop) (i:Nat) (U:St):Prop:=mJ ops i=true\/I U
def kW (C:cq) (mu:List Nat) (ops:Array Oper) (I:St->Prop) (K:Env->St->Prop) (Kp:AV->St->Prop):Nat->Array Bool->Env->St->Prop
 | 0,listed,ρ,U=>Region.ready .any ops listed=[]/\K ρ U
 | n+1,listed,ρ,U=>(Region.ready .any ops listed=[]->K ρ U)/\∀ i ∈ Region.ready .any ops listed,jZ C mu ops (Ix ops I i) i (kW C mu ops I K Kp n (listed.setIfInBounds i true)) Kp ρ U
theorem Jm {mu:List Nat} {ops:Array Oper} {I:St->Prop} (cr:jY nt ops=true) (g0:Gh):∀ (fuel t:Nat) (listed:Array Bool) (g:Gh) (U:St) (w:World) (ρ:Env) (a:Act) (ds:List Deferred),Gh.Le g0 g->a8 g U w->gD C g->ga g ρ a.tmps->a.tmps.size=nt->a.defers=ds ->
 kW C mu ops I (KQ Q) (wF Q) fuel listed ρ U->wpOpsIn (FW fr) 0 C.P ops (pH g0 nt nm ds Q) (Region.linearise.go .any ops fuel t listed []) a w:=by
 intro fuel
 induction fuel with
 | zero =>
   intro t listed g U w ρ a ds h0 hs hG hr hn hd h
   simp only [Region.linearise.go,List.reverse_nil,wpOpsIn]
   exact ⟨hn,g,U,ρ,[],by simpa using hd,kI _ _ _,h0,hs,hr,h.2⟩
 | succ fuel ih =>
   intro t listed g U w ρ a ds h0 hs hG hr hn hd h
   obtain ⟨h1,h2⟩:=h
   simp only [Region.linearise.go]
   change wpOpsIn (FW fr) 0 C.P ops (pH g0 nt nm ds Q) (match (Region.ready .any ops listed)[t % (Region.ready .any ops listed).length]? with
    | some i=>Region.linearise.go .any ops fuel (t / (Region.ready .any ops listed).length) (listed.setIfInBounds i true) [i]
    | none=>[].reverse) a w
   cases hi:(Region.ready .any ops listed)[t % (Region.ready .any ops listed).length]? with
   | none =>
     have Cn:Region.ready .any ops listed=[]:=by
      cases hr:Region.ready .any ops listed with
      | nil=>rfl
      | cons x xs =>
        rw [hr] at hi
        have aO:t % (x::xs).length < (x::xs).length:=Nat.mod_lt _ (by simp)
        simp at hi
        simp at aO
        omega
     simp only [List.reverse_nil,wpOpsIn]
     exact ⟨hn,g,U,ρ,[],by simpa using hd,kI _ _ _,h0,hs,hr,h1 Cn⟩
   | some i =>
     dsimp only
     rw [linearise_go_acc,List.reverse_singleton,List.singleton_append]
     simp only [wpOpsIn]
     have fg:=h2 i (fj hi)
     unfold jZ at fg
     cases ho:ops[i]? with
     | none =>
       rw [ho] at fg
       exact ih _ _ g U w ρ a ds h0 hs hG hr hn hd fg
     | some o =>
       rw [ho] at fg
       dsimp only at fg ⊢
       have lG:o ∈ ops.toList:=fj (l:=ops.toList) (i:=i) (a:=o) (by rw [jS]; exact ho)
       have FQ:Ab nt o=true:=by
        unfold jY at cr
        rw [eC] at cr
        exact cr o lG
       have QV:∀ d,o.dst=some d->d < a.tmps.size:=fun d wL=>by
        simp only [Ab,wL,bL,dI] at FQ
        rw [hn]; exact FQ.1
       have go:∀ g' ad w' x v,Gh.Le g g'->a8 g' ad w'->ay g' x v->kW C mu ops I (KQ Q) (wF Q) fuel (listed.setIfInBounds i true) (ρ.dM o.dst x) ad->wpOpsIn (FW fr) 0 C.P ops (pH g0 nt nm ds Q) (Region.linearise.go .any ops fuel (t / (Region.ready .any ops listed).length) (listed.setIfInBounds i true) []) (a.put o.dst v) w':=fun g' ad w' x v hle dY hx hk =>
        ih _ _ g' ad w' (ρ.dM o.dst x) (a.put o.dst v) ds (h0.trans hle) dY (hG.mono hle) ((hr.mono hle).dM QV hx) (by rw [(ni a o.dst v).2]; exact hn) (by rw [(ni a o.dst v).1]; exact hd) hk
       cases Mm:gq ops ρ o.guard <;> rw [Mm] at fg <;> simp only [av] at fg
       rename_i b
       have hw:=zf hr Mm
       cases b
       . rw [if_neg (by rw [hw]; simp)]
         exact ⟨fun _ _=>trivial,go g U w (.aF []) undef (Gh.Le.refl g) hs tq (fg.2 rfl)⟩
       . rw [if_pos hw]
         refine oP FQ hs hG hr hn (fg.1 rfl) (fun g' ad w' x v hle dY hx hk=>go g' ad w' x v hle dY hx hk.2) ?_ (ds:=ds)
         intro g' ad w' x v hle dY hx hk
         exact ⟨hn,g',ad,ρ,[],by simpa using hd,kI _ _ _,h0.trans hle,dY,hr.mono hle,x,v,rfl,hx,hk ρ⟩
theorem bo.yf {id:Nat} {ops:Array Oper} (mu:List Nat) (I:St->Prop) (hm:C.P.follows .mixedOrders=true) (cr:jY nt ops=true) (h:kW C mu ops I (KQ Q) (wF Q) ops.size (Array.replicate ops.size false) ρ U):bo C nt ro (.region id ops true) Q ρ U:=by
 intro g w a fr h1 h2 h3 h4 wN
 refine wpIn_region_draw fun t=>?_
 simp only [Region.schedule,hm,Bool.true_or,if_true,Region.linearise]
 have hs:=h1.grow (jM w)
 exact Jm cr g ops.size t _ g U _ ρ a a.defers (Gh.Le.refl g) hs h2 h3 h4 rfl h
def aD.yv (C:cq):aD->AV->Prop
 | .val u,v=>u=v
 | @aD.cond p _ r,v=>p/\r.yv C v
 | .enter f args,v=>Pure C f args v
 | _,_=>False
theorem aD.Lk {K:AV->St->Prop} {Kp:AV->St->Prop}:∀ (r:aD) {v:AV},r.yv C v->K v U->r.wp C U K Kp
 | .val _,_,h,hk=>by simp only [aD.yv] at h; subst h; exact hk
 | @aD.cond _ _ r,_,h,hk=>⟨h.1,aD.Lk r h.2 hk⟩
 | .enter _ _,_,h,hk=>h U _ hk
 | .gx _ _ _,_,h,_=>h.elim
 | .new _ _ _,_,h,_=>h.elim
 | .ki _ _,_,h,_=>h.elim
 | .yield _ _,_,h,_=>h.elim
 | .panic _,_,h,_=>h.elim
 | .bad,_,h,_=>h.elim
def cg (B:List Nat) (ao U:St):Prop:=∀ b ∈ B,U.live b=ao.live b
def Still (C:cq) (mu:List Nat) (ops:Array Oper) (B:List Nat) (ao:St) (o:Oper) (ρ:Env) (v:AV):Prop :=
 (gq ops ρ o.guard=.bool true/\quiet o.op=true/\(nI o.op=true->∀ x ∈ o.op.operands.toList,∀ b ∈ cM (ρ.ev C x),b ∈ B)/\(iK C (mC mu o) o.op ρ ao).yv C v)\/(gq ops ρ o.guard=.bool false/\v=.aF [])
theorem Still.put {mu:List Nat} {ops:Array Oper} {B:List Nat} {ao:St} {o:Oper} {v:AV} (h:Still C mu ops B ao o ρ v) {dst:Option Tmp} {u:AV} (hd:∀ d,dst=some d->d ∉ o.looksAt ops):Still C mu ops B ao o (ρ.dM dst u) v:=by
 unfold Still at h ⊢
 rw [Db ops o hd,I8 ops o hd]
 rcases h with ⟨h1,h2,h3,h4⟩ | h
 . refine .inl ⟨h1,h2,fun FX x hx b hb=>h3 FX x hx b ?_,h4⟩
   rw [Io fun d wL Yt=>hd d wL (by
    subst Yt
    exact List.mem_append_left _ (List.mem_filterMap.2 ⟨.tmp d,hx,rfl⟩))] at hb
   exact hb
 . exact .inr h
theorem Still.step {mu:List Nat} {ops:Array Oper} {B:List Nat} {ao:St} {o:Oper} {v:AV} {i:Nat} {K:Env->St->Prop} {Kp:AV->St->Prop} (hi:ops[i]?=some o) (h:Still C mu ops B ao o ρ v) (hI:cg B ao U) {I':St->Prop} (AU:I' U) (hk:K (ρ.dM o.dst v) U) :
 jZ C mu ops I' i K Kp ρ U:=by
 unfold jZ
 rw [hi]
 dsimp only
 rcases h with ⟨h1,h2,h3,h4⟩ | ⟨h1,rfl⟩
 . rw [h1]
   refine ⟨fun _=>?_,fun h=>by cases h⟩
   have e:=Ve (C:=C) (ρ:=ρ) (mu:=mC mu o) (ad:=U) (U:=ao) o.op h2 (fun FX x hx b hb=>hI b (h3 FX x (by simpa using hx) b hb))
   rw [e]
   exact aD.Lk _ h4 ⟨AU,hk⟩
 . rw [h1]
   exact ⟨fun h=>(by cases h),fun _=>hk⟩
theorem BL {mu:List Nat} {ops:Array Oper} {I:St->Prop} {i:Nat} {K K':Env->St->Prop} {Kp:AV->St->Prop} (hI:I U) (hk:∀ ρ U,I U->K ρ U->K' ρ U) (h:jZ C mu ops I i K Kp ρ U):jZ C mu ops I i K' Kp ρ U:=by
 unfold jZ at h ⊢
 split
 . rename_i ho; rw [ho] at h; exact hk _ _ hI h
 . rename_i o ho
   rw [ho] at h
   dsimp only at h
   cases hg:gq ops ρ o.guard <;> rw [hg] at h <;> simp only [av] at h ⊢
   exact ⟨fun e=>aD.wp_mono (fun v U hv=>⟨hv.1,hk _ _ hv.1 hv.2⟩) _ (h.1 e),fun e=>hk _ _ hI (h.2 e)⟩
theorem AB {mu:List Nat} {ops:Array Oper} {B:List Nat} {ao:St} {K:Env->St->Prop} {Kp:AV->St->Prop} {i:Nat} {oi:Oper} {v:AV} (hi:ops[i]?=some oi) :
 ∀ (fuel:Nat) (listed:Array Bool) (ρ:Env) (U:St),
  (∀ j oj,ops[j]?=some oj->j ≠ i->listed.getD j true=false->(∀ e ∈ oj.after,Region.binds .any e=true->e.on ≠ i)->oi.apart ops oj=true) ->
  i ∈ Region.ready .any ops listed->Dn ops listed->Still C mu ops B ao oi ρ v->cg B ao U ->
  kW C mu ops (cg B ao) K Kp fuel (listed.setIfInBounds i true) (ρ.dM oi.dst v) U->kW C mu ops (cg B ao) K Kp (fuel+1) listed ρ U:=by
 intro fuel
 induction fuel with
 | zero =>
   intro listed ρ U _ hr hD hy hI H
   refine ⟨fun h=>(by rw [h] at hr; cases hr),fun j hj=>?_⟩
   by_cases uJ:j=i
   . subst uJ; exact hy.step hi hI (.inr hI) H
   . have:=ready_mono hj uJ
     rw [H.1] at this
     cases this
 | succ fuel ih =>
   intro listed ρ U Er hr hD hy hI H
   refine ⟨fun h=>(by rw [h] at hr; cases hr),fun j hj=>?_⟩
   by_cases uJ:j=i
   . subst uJ; exact hy.step hi hI (.inr hI) H
   . have h1:=H.2 j (ready_mono hj uJ)
     obtain ⟨X3,oj,mY,bO⟩:=mem_ready.1 hj
     have FP:∀ e ∈ oj.after,Region.binds .any e=true->e.on ≠ i:=fun e he hb heq=>by
      have h1:=bO e he hb
      have h0:=(mem_ready.1 hr).1
      rw [heq] at h1
      rcases je i listed.size with h' | h'
      . simp [h'] at h0 h1; rw [h0] at h1; cases h1
      . simp [wc h'] at h1
     obtain ⟨a1,a2,a3⟩:=Oper.apart_spec (Er j oj mY uJ X3 FP)
     have XY:∀ k ok,ops[k]?=some ok->k ≠ i->(listed.setIfInBounds j true).getD k true=false ->
      (∀ e ∈ ok.after,Region.binds .any e=true->e.on ≠ i)->oi.apart ops ok=true:=fun k ok hk Iw hun hX=>by
      refine Er k ok hk Iw ?_ hX
      by_cases hjk:j=k
      . subst hjk; exact X3
      . rw [getD_set_ne true hjk] at hun; exact hun
     have Mv:¬ mJ ops j=true:=fun aa9=>by
      have h1:=Bk hD hj aa9 i (jR.1 hi).1 (Ne.symm uJ)
      have h0:=(mem_ready.1 hr).1
      rcases je i listed.size with h' | h'
      . simp [h'] at h0 h1; rw [h0] at h1; cases h1
      . simp [wc h'] at h1
     have next:∀ (u:AV) (ad:St),cg B ao ad->kW C mu ops (cg B ao) K Kp fuel ((listed.setIfInBounds i true).setIfInBounds j true) ((ρ.dM oi.dst v).dM oj.dst u) ad ->
      kW C mu ops (cg B ao) K Kp (fuel+1) (listed.setIfInBounds j true) (ρ.dM oj.dst u) ad:=fun u ad AU hA=>by
      refine ih (listed.setIfInBounds j true) (ρ.dM oj.dst u) ad XY (ready_mono hr (Ne.symm uJ)) (hD.set hj) (hy.put a3) AU ?_
      rw [Array.setIfInBounds_comm _ _ uJ,<- Nu (d:=oi.dst) (d':=oj.dst) (fun t ht=>a2 t ht)]
      exact hA
     unfold jZ at h1 ⊢
     rw [mY] at h1 ⊢
     dsimp only at h1 ⊢
     rw [Db ops oj a1,I8 ops oj a1] at h1
     cases hg:gq ops ρ oj.guard <;> rw [hg] at h1 <;> simp only [av] at h1 ⊢
     exact ⟨fun e=>aD.wp_mono (fun u ad hu=>⟨hu.1,next u ad (hu.1.resolve_left Mv) hu.2⟩) _ (h1.1 e),fun e=>next _ U hI (h1.2 e)⟩
def gH (ops:Array Oper):List (Bool × Nat)->Array Bool->Bool
 | [],listed=>(Region.ready .any ops listed).isEmpty
 | (true,i)::r,listed=>(Region.ready .any ops listed).contains i && Region.free .any ops listed i && gH ops r (listed.setIfInBounds i true)
 | (false,i)::r,listed=>(Region.ready .any ops listed == [i]) && gH ops r (listed.setIfInBounds i true)
def kx (C:cq) (mu:List Nat) (ops:Array Oper) (B:List Nat) (ao:St) (K:Env->St->Prop) (Kp:AV->St->Prop):List (Bool × Nat)->Env->St->Prop
 | [],ρ,U=>K ρ U
 | (true,i)::r,ρ,U=>∃ o v,ops[i]?=some o/\Still C mu ops B ao o ρ v/\kx C mu ops B ao K Kp r (ρ.dM o.dst v) U
 | (false,i)::r,ρ,U=>jZ C mu ops (Ix ops (cg B ao) i) i (kx C mu ops B ao K Kp r) Kp ρ U
theorem RA {ops:Array Oper} {i:Nat} {listed:Array Bool} (hD:Dn ops listed) (hi:i ∈ Region.ready .any ops listed) (ha:mJ ops i=true):∀ {r:List (Bool × Nat)},gH ops r (listed.setIfInBounds i true)=true->r=[]
 | [],_=>rfl
 | (b,k)::r,h=>by
   exfalso
   have hk:k ∈ Region.ready .any ops (listed.setIfInBounds i true):=by
    cases b with
    | true=>simp only [gH,bL] at h; simpa using h.1.1
    | false=>simp only [gH,bL,beq_iff_eq] at h; rw [h.1]; simp
   obtain ⟨h0,ok,cr,_⟩:=mem_ready.1 hk
   have xH:=(mem_ready.1 hi).1
   have bT:k ≠ i:=fun e=>by
    subst e
    have aO:k < listed.size:=by
     rcases je k listed.size with h | h
     . exact h
     . simp [wc h] at xH
    simp [aO] at h0
   have h1:=Bk hD hi ha k (jR.1 cr).1 bT
   rw [getD_set_ne true (Ne.symm bT)] at h0
   rcases je k listed.size with h' | h'
   . simp [h'] at h0 h1; rw [h0] at h1; cases h1
   . simp [wc h'] at h1
theorem qG {mu:List Nat} {ops:Array Oper} {B:List Nat} {ao:St} {K:Env->St->Prop} {Kp:AV->St->Prop}:∀ (cK:List (Bool × Nat)) (listed:Array Bool) (ρ:Env) (U:St),gH ops cK listed=true->Dn ops listed->(cK=[]\/cg B ao U)->kx C mu ops B ao K Kp cK ρ U ->
 kW C mu ops (cg B ao) K Kp cK.length listed ρ U
 | [],listed,ρ,U,hp,hD,hI,h=>⟨by simpa [gH] using hp,h⟩
 | (true,i)::r,listed,ρ,U,hp,hD,hI,h=>by
   have hI:=hI.resolve_left (by simp)
   simp only [gH,bL] at hp
   obtain ⟨o,v,ho,fg,hr⟩:=h
   exact AB ho r.length listed ρ U (Region.free_spec ho hp.1.2) (by simpa using hp.1.1) hD fg hI (qG r _ _ U hp.2 (hD.set (by simpa using hp.1.1)) (.inr hI) hr)
 | (false,i)::r,listed,ρ,U,hp,hD,hI,h=>by
   have hS:=hI.resolve_left (by simp)
   simp only [gH,bL,beq_iff_eq] at hp
   refine ⟨fun h0=>(by rw [hp.1] at h0; cases h0),fun j hj=>?_⟩
   have Dh:=hj
   rw [hp.1,jg] at hj
   subst hj
   exact BL (.inr hS) (fun dx ad AU hr=>qG r _ dx ad hp.2 (hD.set Dh) (AU.elim (fun ha=>.inl (RA hD Dh ha hp.2)) .inr) hr) h
theorem bo.rG {id:Nat} {ops:Array Oper} (mu:List Nat) (B:List Nat) (cK:List (Bool × Nat)) (hm:C.P.follows .mixedOrders=true) (cr:jY nt ops=true) (hp:(gH ops cK (Array.replicate ops.size false) && (cK.length == ops.size))=true)
 (h:kx C mu ops B U (KQ Q) (wF Q) cK ρ U):bo C nt ro (.region id ops true) Q ρ U:=by
 simp only [bL,beq_iff_eq] at hp
 refine bo.yf mu (cg B U) hm cr ?_
 have:=qG cK _ ρ U hp.1 (Dn.none _ _) (.inr fun _ _=>rfl) h
 rw [hp.2] at this
 exact this
theorem aD.Ay {K:AV->St->Prop} {Kp wE:AV->St->Prop} (hp:∀ v U,Kp v U->wE v U):∀ (r:aD) {U:St},r.wp C U K Kp->r.wp C U K wE
 | .val _,_,h=>h
 | .gx _ _ _,_,h=>h
 | .new _ _ _,_,h=>h
 | .ki _ _,_,h=>h
 | .enter _ _,_,h=>ae.mono h fun r U hr=>by cases r <;> first | exact hr | exact hp _ _ hr
 | .yield _ _,_,h=>kV.mono h fun r U hr=>by cases r <;> first | exact hr | exact hp _ _ hr
 | .panic _,_,h=>hp _ _ h
 | @aD.cond _ _ r,_,h=>⟨h.1,aD.Ay hp r h.2⟩
 | .bad,_,h=>h
theorem iC {mu:List Nat} {ops:Array Oper} {B:List Nat} {ao:St} {K K':Env->St->Prop} {Kp wE:AV->St->Prop} (hk:∀ ρ U,K ρ U->K' ρ U) (hp:∀ v U,Kp v U->wE v U):∀ (l:List (Bool × Nat)) {ρ:Env} {U:St},kx C mu ops B ao K Kp l ρ U->kx C mu ops B ao K' wE l ρ U
 | [],_,_,h=>hk _ _ h
 | (true,i)::r,ρ,U,h=>by
   obtain ⟨o,v,h1,h2,h3⟩:=h
   exact ⟨o,v,h1,h2,iC hk hp r h3⟩
 | (false,i)::r,ρ,U,h=>by
   simp only [kx,jZ] at h ⊢
   split
   . rename_i ho; rw [ho] at h; exact iC hk hp r h
   . rename_i o ho
     rw [ho] at h
     dsimp only at h
     cases hg:gq ops ρ o.guard <;> rw [hg] at h <;> simp only [av] at h ⊢
     exact ⟨fun e=>aD.wp_mono (fun v U hv=>⟨hv.1,iC hk hp r hv.2⟩) _ (aD.Ay hp _ (h.1 e)),fun e=>iC hk hp r (h.2 e)⟩
end
end Go.Rip
namespace Go.Rip
open Go.RowKit
def pA (kk:IntKind) (a:Int) (v:AV) (kv:List AV × List AV):List AV × List AV:=fR (.int kk a) v kv.1 kv.2
theorem s8 (kk:IntKind) (a b:Int):iz (.int kk a) (.int kk b)=decide (a < b):=by simp [iz]
def wY (kk:IntKind) (kv:List AV × List AV):Prop:=kv.1.length=kv.2.length/\∀ y ∈ kv.1,∃ n,y=.int kk n
theorem F7 (k v:AV):∀ ks vs:List AV,ks.length=vs.length->(fR k v ks vs).1.length=(fR k v ks vs).2.length
 | [],[],_=>rfl
 | y::ys,w::ws,h=>by
   simp only [fR]
   split
   . simpa using h
   . simpa using F7 k v ys ws (by simpa using h)
 | [],_::_,h=>by simp at h
 | _::_,[],h=>by simp at h
theorem IK {kk:IntKind} {a:Int} {v:AV} {kv:List AV × List AV} (h:wY kk kv):wY kk (pA kk a v kv) :=
 ⟨F7 _ _ _ _ h.1,fun y hy=>by
   rcases vH _ _ y hy with rfl | hy
   . exact ⟨a,rfl⟩
   . exact h.2 y hy⟩
theorem Dv {kk:IntKind} {a b:Int} {v w:AV} (It:a ≠ b):∀ ks vs:List AV,ks.length=vs.length->(∀ y ∈ ks,∃ n,y=.int kk n) ->
 fR (.int kk a) v (fR (.int kk b) w ks vs).1 (fR (.int kk b) w ks vs).2=fR (.int kk b) w (fR (.int kk a) v ks vs).1 (fR (.int kk a) v ks vs).2
 | [],[],_,_=>by
   simp only [fR,s8]
   by_cases h:a < b
   . have:¬ b < a:=by omega
     simp [h,this]
   . have:b < a:=by omega
     simp [h,this]
 | y::ys,x::xs,h,hy=>by
   obtain ⟨n,rfl⟩:=hy _ (List.mem_cons_self ..)
   have ih:=Dv (v:=v) (w:=w) It ys xs (by simpa using h) (fun y hm=>hy y (by simp [hm]))
   simp only [fR,s8]
   by_cases h1:a < n <;> by_cases h2:b < n <;> by_cases h3:a < b
   all_goals (have h4:b < a\/¬ b < a:=by omega)
   all_goals (rcases h4 with h4 | h4 <;> simp only [h1,h2,h3,h4,da,dN,if_true,if_false,bJ,fR,s8] <;> first | omega | (simp only [ih]; done) | rfl | (simp [fR,s8,h1,h2,h3,h4,ih]; done))
 | [],_::_,h,_=>by simp at h
 | _::_,[],h,_=>by simp at h
theorem MH {kk:IntKind} {a b:Int} {v w:AV} (It:a ≠ b) {kv:List AV × List AV} (h:wY kk kv):pA kk a v (pA kk b w kv)=pA kk b w (pA kk a v kv):=Dv It kv.1 kv.2 h.1 h.2
structure tK where
 i:Nat
 key:Int
 val:AV
def oq (kk:IntKind) (l:List tK) (kv:List AV × List AV):List AV × List AV:=l.foldl (fun kv x=>pA kk x.key x.val kv) kv
theorem xR {kk:IntKind}:∀ (p9:List tK) (x:tK) (qd:List tK) {kv:List AV × List AV},wY kk kv->(∀ y ∈ p9,y.key ≠ x.key)->oq kk (p9++x::qd) kv=oq kk (p9++qd) (pA kk x.key x.val kv)
 | [],x,qd,_,_,_=>rfl
 | y::p9,x,qd,kv,h,hk=>by
   show oq kk (p9++x::qd) (pA kk y.key y.val kv)=oq kk (p9++qd) (pA kk y.key y.val (pA kk x.key x.val kv))
   rw [xR p9 x qd (IK h) (fun z hz=>hk z (by simp [hz])),MH (hk y (by simp)).symm h]
theorem Fm {kk:IntKind} {a:Int}:∀ (ks:List AV) (i:Nat),(∀ y ∈ ks,∃ n,y=.int kk n/\n ≠ a)->kj .i (.int kk a) ks i=some none
 | [],_,_=>rfl
 | y::ys,i,h=>by
   obtain ⟨n,rfl,hn⟩:=h _ (List.mem_cons_self ..)
   have bT:(a == n)=false:=by simpa using Ne.symm hn
   simp only [kj,gk,if_true,bT,bJ,if_false]
   exact Fm ys (i+1) fun y hy=>h y (by simp [hy])
theorem set_set (U:St) (b:Nat) (x y:Live):(U.set b x).set b y=U.set b y:=by
 simp only [St.set,St.mk.injEq,and_true]; funext q; split <;> rfl
theorem YE (U:St) (b:Nat) (ks vs:List AV):(U.set b (.mp ks vs)).mp b=some (ks,vs):=by simp [St.mp,St.set]
section
variable {C:cq} {mu:List Nat} {ops:Array Oper} {B:List Nat} {ao:St} {K:Env->St->Prop} {Kp:AV->St->Prop}
def aas (C:cq) (ops:Array Oper) (ρ:Env) (t:TypeId) (m:Nat) (kk:IntKind) (listed:Array Bool) (x:tK):Prop:=∃ o v,ops[x.i]?=some o/\o.op=.insert t (.tmp m) (.const (.int kk x.key)) v/\o.dst=none/\o.guard=none/\ρ.ev C v=x.val /\
 ∀ e ∈ o.after,Region.binds .any e=true->listed.getD e.on false=true
def VH (ops:Array Oper) (listed:Array Bool) (l:List tK):Prop:=∀ j o,ops[j]?=some o->listed.getD j true=false->(∃ x ∈ l,x.i=j)\/∀ x ∈ l,∃ e ∈ o.after,Region.binds .any e=true/\e.on=x.i
theorem UH {t:TypeId} {m:Nat} {kk:IntKind} {e:TypeId} (ht:pF C.P t=some (.i,e)) {id:Nat} {ρ:Env} (hm:ρ.get m=.mp id) (hB:id ∉ B) (mm:Nat):∀ (n:Nat) (l:List tK) (listed:Array Bool) (U:St) (kv:List AV × List AV),l.length=n ->
 (∀ x ∈ l,listed.getD x.i true=false)->VH ops listed l->l.Pairwise (fun x y=>x.i ≠ y.i/\x.key ≠ y.key)->(∀ x ∈ l,aas C ops ρ t m kk listed x)->cg B ao U->wY kk kv ->
 (∀ x ∈ l,.int kk x.key ∉ kv.1)->(∀ lj:Array Bool,lj.size=listed.size->(∀ j,lj.getD j true=false ↔ listed.getD j true=false/\¬ ∃ x ∈ l,x.i=j)->kW C mu ops (cg B ao) K Kp mm lj ρ (U.set id (.mp (oq kk l kv).1 (oq kk l kv).2))) ->
 kW C mu ops (cg B ao) K Kp (n+mm) listed ρ (U.set id (.mp kv.1 kv.2)):=by
 intro n
 induction n with
 | zero =>
   intro l listed U kv hl A9 uE hp cr hI SQ hX hK
   obtain rfl:l=[]:=List.eq_nil_of_length_eq_zero hl
   rw [cV]
   exact hK listed rfl fun j=>by simp
 | succ n ih =>
   intro l listed U kv hl A9 uE hp cr hI SQ hX hK
   have FV:∀ x ∈ l,x.i ∈ Region.ready .any ops listed:=fun x hx=>by
    obtain ⟨o,v,h1,_,_,_,_,h6⟩:=cr x hx
    exact mem_ready.2 ⟨A9 x hx,o,h1,h6⟩
   rw [show n+1+mm=(n+mm)+1 by omega]
   refine ⟨fun h=>?_,fun j hj=>?_⟩
   . obtain ⟨x,l',rfl⟩:∃ x l',l=x::l':=by cases l with | nil=>simp at hl | cons x l'=>exact ⟨x,l',rfl⟩
     have:=FV x (by simp)
     rw [h] at this; cases this
   . obtain ⟨x,hx,rfl⟩:∃ x ∈ l,x.i=j:=by
      obtain ⟨h0,oj,mY,bO⟩:=mem_ready.1 hj
      rcases uE j oj mY h0 with h | h
      . exact h
      . exfalso
        obtain ⟨x,l',rfl⟩:∃ x l',l=x::l':=by cases l with | nil=>simp at hl | cons x l'=>exact ⟨x,l',rfl⟩
        obtain ⟨ed,he,hb,Bc⟩:=h x (by simp)
        have k1:=bO ed he hb
        rw [Bc] at k1
        have k2:=A9 x (by simp)
        rcases je x.i listed.size with h' | h'
        . simp [h'] at k1 k2; rw [k2] at k1; cases k1
        . simp [wc h'] at k1
     obtain ⟨o,v,h1,h2,h3,h4,h5,h6⟩:=cr x hx
     obtain ⟨p9,qd,rfl⟩:=List.append_of_mem hx
     have hpa:=hp
     rw [List.pairwise_append] at hp
     obtain ⟨p1,p2,p3⟩:=hp
     rw [List.pairwise_cons] at p2
     have A0:kj .i (.int kk x.key) kv.1 0=some none:=Fm _ _ fun y hy=>by
      obtain ⟨n,rfl⟩:=SQ.2 y hy
      exact ⟨n,rfl,fun e=>hX x hx (by rw [<- e]; exact hy)⟩
     unfold jZ
     rw [h1]
     dsimp only
     rw [h4,h2,h3]
     refine ⟨fun _=>?_,fun h=>by cases h⟩
     have hop:iK C (mC mu o) (.insert t (.tmp m) (.const (.int kk x.key)) v) ρ (U.set id (.mp kv.1 kv.2))=.gx (.aF []) id (.mp (pA kk x.key x.val kv).1 (pA kk x.key x.val kv).2):=by
      show pG C.P t (ρ.ev C (.tmp m)) (ρ.ev C (.const (.int kk x.key))) (ρ.ev C v) _=_
      rw [h5,show ρ.ev C (.tmp m)=.mp id from hm,show ρ.ev C (.const (.int kk x.key))=.int kk x.key from rfl]
      simp only [pG,ht,YE,A0,oG,pA]
     rw [hop]
     refine ⟨.inr fun b hb=>?_,?_⟩
     . have bT:b ≠ id:=fun e=>hB (e ▸ hb)
       rw [set_set]
       simp only [St.set,if_neg bT]
       exact hI b hb
     . show kW C mu ops (cg B ao) K Kp (n+mm) (listed.setIfInBounds x.i true) ρ _
       rw [set_set]
       have aO:x.i < listed.size:=by
        have h0:=A9 x hx
        rcases je x.i listed.size with h | h
        . exact h
        . simp [wc h] at h0
       have Tb:(listed.setIfInBounds x.i true).getD x.i true=true:=by simp [aO]
       have xN:∀ y ∈ p9++qd,y ∈ p9++x::qd:=fun y hy=>by
        simp only [fB,cD] at hy ⊢
        rcases hy with hy | hy
        . exact .inl hy
        . exact .inr (.inr hy)
       have bT:∀ y ∈ p9++qd,x.i ≠ y.i:=fun y hy=>by
        rcases fB.1 hy with hy | hy
        . exact (p3 y hy x (by simp)).1.symm
        . exact (p2.1 y hy).1
       refine ih (p9++qd) (listed.setIfInBounds x.i true) U (pA kk x.key x.val kv) ?_ ?_ ?_ ?_ ?_ hI (IK SQ) ?_ ?_
       . simp at hl ⊢; omega
       . intro y hy
         rw [getD_set_ne true (bT y hy)]
         exact A9 y (xN y hy)
       . intro j oj mY h0
         have hjx:x.i ≠ j:=fun e=>by subst e; rw [Tb] at h0; cases h0
         rw [getD_set_ne true hjx] at h0
         rcases uE j oj mY h0 with ⟨y,hy,rfl⟩ | h
         . left
           refine ⟨y,?_,rfl⟩
           simp only [fB,cD] at hy ⊢
           rcases hy with hy | rfl | hy
           . exact .inl hy
           . exact absurd rfl hjx
           . exact .inr hy
         . right
           exact fun y hy=>h y (xN y hy)
       . rw [List.pairwise_append]
         exact ⟨p1,p2.2,fun y hy z hz=>p3 y hy z (by simp [hz])⟩
       . intro y hy
         obtain ⟨o',v',q1,q2,q3,q4,q5,q6⟩:=cr y (by simp only [fB,cD] at hy ⊢; rcases hy with hy | hy; exact .inl hy; exact .inr (.inr hy))
         exact ⟨o',v',q1,q2,q3,q4,q5,fun ed he hb=>getD_set_true (q6 ed he hb)⟩
       . intro y hy lG
         rcases vH _ _ _ lG with e | e
         . simp only [AV.int.injEq,true_and] at e
           rcases fB.1 hy with hy | hy
           . exact (p3 y hy x (by simp)).2 e
           . exact (p2.1 y hy).2 e.symm
         . exact hX y (by simp only [fB,cD] at hy ⊢; rcases hy with hy | hy; exact .inl hy; exact .inr (.inr hy)) e
       . rw [<- xR p9 x qd SQ (fun y hy=>(p3 y hy x (by simp)).2)]
         intro lj dY Dk
         refine hK lj (by rw [dY]; simp) fun j=>?_
         rw [Dk j]
         by_cases e:x.i=j
         . subst e
           rw [Tb]
           constructor
           . rintro ⟨h,_⟩; cases h
           . rintro ⟨_,h⟩; exact absurd ⟨x,by simp,rfl⟩ h
         . rw [getD_set_ne true e]
           refine and_congr_right fun _=>not_congr ?_
           constructor
           . rintro ⟨y,hy,rfl⟩; exact ⟨y,xN y hy,rfl⟩
           . rintro ⟨y,hy,rfl⟩
             refine ⟨y,?_,rfl⟩
             simp only [fB,cD] at hy ⊢
             rcases hy with hy | rfl | hy
             . exact .inl hy
             . exact absurd rfl e
             . exact .inr hy
def nh (ops:Array Oper):List (Bool × Nat)->Array Bool->Option (Array Bool)
 | [],listed=>some listed
 | (true,i)::r,listed=>cond ((Region.ready .any ops listed).contains i && Region.free .any ops listed i) (nh ops r (listed.setIfInBounds i true)) none
 | (false,i)::r,listed=>cond (Region.ready .any ops listed == [i] && !mJ ops i) (nh ops r (listed.setIfInBounds i true)) none
theorem vS {m:Nat} {po:Array Bool} {K0:Env->St->Prop} (FD:∀ ρ U,Dn ops po->cg B ao U->K0 ρ U->kW C mu ops (cg B ao) K Kp m po ρ U):∀ (cK:List (Bool × Nat)) (listed:Array Bool) (ρ:Env) (U:St),nh ops cK listed=some po->Dn ops listed->cg B ao U->kx C mu ops B ao K0 Kp cK ρ U ->
 kW C mu ops (cg B ao) K Kp (cK.length+m) listed ρ U
 | [],listed,ρ,U,hp,hD,hI,h=>by
   simp only [nh,gK] at hp
   subst hp
   simpa using FD ρ U hD hI h
 | (true,i)::r,listed,ρ,U,hp,hD,hI,h=>by
   simp only [nh] at hp
   cases hc:((Region.ready .any ops listed).contains i && Region.free .any ops listed i) with
   | false=>rw [hc] at hp; cases hp
   | true =>
     rw [hc] at hp
     simp only [bL] at hc
     obtain ⟨o,v,ho,fg,hr⟩:=h
     have:=AB ho (r.length+m) listed ρ U (Region.free_spec ho hc.2) (by simpa using hc.1) hD fg hI (vS FD r _ _ U hp (hD.set (by simpa using hc.1)) hI hr)
     rw [show ((true,i)::r).length+m=r.length+m+1 by simp; omega]
     exact this
 | (false,i)::r,listed,ρ,U,hp,hD,hI,h=>by
   simp only [nh] at hp
   cases hc:(Region.ready .any ops listed == [i] && !mJ ops i) with
   | false=>rw [hc] at hp; cases hp
   | true =>
     rw [hc] at hp
     simp only [bL,beq_iff_eq,Bool.not_eq_true'] at hc
     obtain ⟨hc,Mv⟩:=hc
     rw [show ((false,i)::r).length+m=r.length+m+1 by simp; omega]
     refine ⟨fun h0=>(by rw [hc] at h0; cases h0),fun j hj=>?_⟩
     have Dh:=hj
     rw [hc,jg] at hj
     subst hj
     exact BL (.inr hI) (fun dx ad AU hr=>vS FD r _ dx ad hp (hD.set Dh) (AU.resolve_left (by rw [Mv]; simp)) hr) h
structure mw where
 t:TypeId
 m:Nat
 kk:IntKind
 l:List Nat
def J6 (I:mw) (o:Oper):Option (Int × Operand):=match o.op,o.dst,o.guard with
 | .insert t (.tmp m) (.const (.int kk a)) v,none,none=>cond (Nat.beq t I.t && (Nat.beq m I.m && decide (kk=I.kk))) (some (a,v)) none
 | _,_,_=>none
def lg (ops:Array Oper) (I:mw) (i:Nat):Option (Int × Operand):=(ops[i]?).bind (J6 I)
def Ek (listed:Array Bool) (o:Oper):Bool:=o.after.toList.all fun e=>!Region.binds .any e || listed.getD e.on false
def Ca (ops:Array Oper) (I:mw) (listed:Array Bool):Bool:=(List.range ops.size).all fun j=>listed.getD j true || (I.l.contains j || (match ops[j]? with
 | some o=>I.l.all fun i=>o.after.toList.any fun e=>Region.binds .any e && Nat.beq e.on i
 | none=>true))
def o4 (ops:Array Oper) (I:mw) (listed:Array Bool):Bool :=
 Ca ops I listed && (I.l.all (fun i=>!listed.getD i true) && (Nat.beq listed.size ops.size && (I.l.all (fun i=>Nat.blt i ops.size && ((lg ops I i).isSome && (match ops[i]? with | some o=>Ek listed o | none=>false)))
  && (decide I.l.Nodup && decide (I.l.map fun i=>((lg ops I i).map (·.1)).getD 0).Nodup))))
def fL (listed:Array Bool) (l:List Nat):Array Bool:=l.foldl (fun a i=>a.setIfInBounds i true) listed
theorem uf:∀ (l:List Nat) (a:Array Bool),(fL a l).size=a.size
 | [],_=>rfl
 | i::l,a=>by
   show (fL (a.setIfInBounds i true) l).size=_
   rw [uf l]; simp
theorem wg:∀ (l:List Nat) (a:Array Bool) (j:Nat),(fL a l).getD j true=false ↔ a.getD j true=false/\j ∉ l
 | [],_,_=>by simp [fL]
 | i::l,a,j=>by
   show (fL (a.setIfInBounds i true) l).getD j true=false ↔ _
   rw [wg l]
   by_cases e:i=j
   . subst e
     have:(a.setIfInBounds i true).getD i true=true:=by
      by_cases h:i < a.size
      . simp [h]
      . simp [wc (Nat.le_of_not_lt h)]
     rw [this]; simp
   . rw [getD_set_ne true e]; simp [Ne.symm e]
def mq (C:cq) (ops:Array Oper) (ρ:Env) (I:mw):List tK:=I.l.filterMap fun i=>(lg ops I i).map fun p=>⟨i,p.1,ρ.ev C p.2⟩
def J5 (C:cq) (ops:Array Oper) (B:List Nat) (I:mw) (K:Env->St->Prop) (ρ:Env) (U:St):Prop :=
 ∃ id,ρ.get I.m=.mp id/\U.mp id=some ([],[])/\id ∉ B/\K ρ (U.set id (.mp (oq I.kk (mq C ops ρ I) ([],[])).1 (oq I.kk (mq C ops ρ I) ([],[])).2))
theorem J7 {I:mw} {o:Oper} {a:Int} {v:Operand} (h:J6 I o=some (a,v)):o.op=.insert I.t (.tmp I.m) (.const (.int I.kk a)) v/\o.dst=none/\o.guard=none:=by
 unfold J6 at h
 split at h
 . rename_i t m kk a' v' h1 h2 h3
   cases hc:(Nat.beq t I.t && (Nat.beq m I.m && decide (kk=I.kk))) with
   | false=>rw [hc] at h; cases h
   | true =>
     rw [hc] at h
     simp only [bL,dI] at hc
     obtain ⟨e1,e2,e3⟩:=hc
     have e1:=ey e1
     have e2:=ey e2
     simp only [cond_true,gK,ik] at h
     obtain ⟨rfl,rfl⟩:=h
     exact ⟨by rw [h1,e1,e2,e3],h2,h3⟩
 . cases h
theorem HZ {U:St} {id:Nat} {kv:List AV × List AV} (h:U.mp id=some kv):U.set id (.mp kv.1 kv.2)=U:=by
 have:=St.ou.1 h
 simp only [St.set]
 cases U with
 | mk live nb =>
   simp only [St.mk.injEq,and_true]
   funext q
   split
   . rename_i e; subst e; exact this.symm
   . rfl
theorem Dn.fL {I:mw} {listed:Array Bool} (hD:Dn ops listed) (hc:o4 ops I listed=true):Dn ops (Go.Rip.fL listed I.l):=by
 simp only [o4,bL,eC] at hc
 obtain ⟨h0,h1,h2,h3,_⟩:=hc
 have h2:=ey h2
 have mono:∀ (l:List Nat) (a:Array Bool) (j:Nat),a.getD j false=true->(Go.Rip.fL a l).getD j false=true:=fun l=>by
  induction l with
  | nil=>exact fun a j h=>h
  | cons i l ih=>exact fun a j h=>ih _ j (getD_set_true h)
 intro m o ho hl e he hb
 by_cases hm:m ∈ I.l
 . have:=(h3 m hm).2.2
   rw [ho] at this
   simp only [Ek,eC,iL] at this
   have:=this e (by simpa using he)
   rw [hb] at this
   exact mono _ _ _ (by simpa using this)
 . have aO:m < listed.size:=by rw [h2]; exact (jR.1 ho).1
   have hlm:listed.getD m false=true:=by
    cases hh:listed.getD m true with
    | false =>
      have k:=(wg I.l listed m).2 ⟨hh,hm⟩
      have hs:m < (Go.Rip.fL listed I.l).size:=by rw [uf]; exact aO
      simp [hs] at k hl
      rw [k] at hl; cases hl
    | true=>simp [aO] at hh ⊢; exact hh
   exact mono _ _ _ (hD m o ho hlm e he hb)
theorem MI {I:mw} {listed:Array Bool} {e:TypeId} {mm:Nat} {K1:Env->St->Prop} (ht:pF C.P I.t=some (.i,e)) (hc:o4 ops I listed=true)
 (hK1:∀ ρ U,Dn ops (fL listed I.l)->cg B ao U->K1 ρ U->kW C mu ops (cg B ao) K Kp mm (fL listed I.l) ρ U):∀ ρ U,Dn ops listed->cg B ao U->J5 C ops B I K1 ρ U->kW C mu ops (cg B ao) K Kp (I.l.length+mm) listed ρ U:=by
 rintro ρ U hD hI ⟨id,hm,FN,hB,hK⟩
 have hDs:=hD.fL hc
 simp only [o4,bL,eC,dI,Bool.not_eq_true'] at hc
 obtain ⟨h0,h1,h2,h3,h4,h5⟩:=hc
 have h2:=ey h2
 have J0:∀ i ∈ I.l,∃ a v,lg ops I i=some (a,v):=fun i hi=>by
  have:=(h3 i hi).2.1
  obtain ⟨p,hp⟩:=Option.isSome_iff_exists.1 this
  exact ⟨p.1,p.2,hp⟩
 have lG:∀ x,x ∈ mq C ops ρ I ↔ ∃ i ∈ I.l,∃ a v,lg ops I i=some (a,v)/\x=⟨i,a,ρ.ev C v⟩:=fun x=>by
  simp only [mq,List.mem_filterMap,nX]
  constructor
  . rintro ⟨i,hi,⟨a,v⟩,hp,rfl⟩; exact ⟨i,hi,a,v,hp,rfl⟩
  . rintro ⟨i,hi,a,v,hp,rfl⟩; exact ⟨i,hi,(a,v),hp,rfl⟩
 have q9:∀ j,(∃ x ∈ mq C ops ρ I,x.i=j) ↔ j ∈ I.l:=fun j=>by
  constructor
  . rintro ⟨x,hx,rfl⟩
    obtain ⟨i,hi,a,v,hp,rfl⟩:=(lG _).1 hx
    exact hi
  . intro hj
    obtain ⟨a,v,hp⟩:=J0 j hj
    exact ⟨_,(lG _).2 ⟨j,hj,a,v,hp,rfl⟩,rfl⟩
 rw [<- HZ FN]
 have hlen:(mq C ops ρ I).length=I.l.length:=by
  have:∀ l:List Nat,(∀ i ∈ l,∃ a v,lg ops I i=some (a,v))->(l.filterMap fun i=>(lg ops I i).map fun p=>(⟨i,p.1,ρ.ev C p.2⟩:tK)).length=l.length:=fun l=>by
   induction l with
   | nil=>intro _; rfl
   | cons i l ih =>
     intro h
     obtain ⟨a,v,hp⟩:=h i (by simp)
     simp only [List.filterMap_cons,hp,Option.map_some,jf,ih fun j hj=>h j (by simp [hj])]
  exact this _ J0
 have hpw:(mq C ops ρ I).Pairwise (fun x y=>x.i ≠ y.i/\x.key ≠ y.key):=by
  have:∀ l:List Nat,(∀ i ∈ l,∃ a v,lg ops I i=some (a,v))->l.Nodup->(l.map fun i=>((lg ops I i).map (·.1)).getD 0).Nodup->(l.filterMap fun i=>(lg ops I i).map fun p=>(⟨i,p.1,ρ.ev C p.2⟩:tK)).Pairwise (fun x y=>x.i ≠ y.i/\x.key ≠ y.key):=fun l=>by
   induction l with
   | nil=>intro _ _ _; exact List.Pairwise.nil
   | cons i l ih =>
     intro h hn hk
     obtain ⟨a,v,hp⟩:=h i (by simp)
     rw [List.nodup_cons] at hn
     rw [dV,List.nodup_cons] at hk
     simp only [List.filterMap_cons,hp,Option.map_some]
     refine List.Pairwise.cons (fun y hy=>?_) (ih (fun j hj=>h j (by simp [hj])) hn.2 hk.2)
     rw [List.mem_filterMap] at hy
     obtain ⟨j,hj,hjy⟩:=hy
     rw [nX] at hjy
     obtain ⟨p,uN,rfl⟩:=hjy
     refine ⟨fun e=>hn.1 (by have e:i=j:=e; rw [e]; exact hj),fun e=>hk.1 ?_⟩
     have e:a=p.1:=e
     refine List.mem_map.2 ⟨j,hj,?_⟩
     rw [uN,hp]; simp [e]
  exact this _ J0 h4 h5
 refine UH (kk:=I.kk) ht hm hB mm _ (mq C ops ρ I) listed U ([],[]) hlen ?_ ?_ hpw ?_ hI ⟨rfl,fun y hy=>by cases hy⟩ (fun x hx=>by simp) ?_
 . intro x hx
   exact h1 x.i ((q9 x.i).1 ⟨x,hx,rfl⟩)
 . intro j o ho hj
   have aO:j < ops.size:=(jR.1 ho).1
   simp only [Ca,eC,List.mem_range,iL] at h0
   have:=h0 j aO
   rw [ho,hj] at this
   rcases this with h | h | h
   . cases h
   . left; exact (q9 j).2 (by simpa using h)
   . right
     intro x hx
     simp only [eC] at h
     have:=h x.i ((q9 x.i).1 ⟨x,hx,rfl⟩)
     rw [List.any_eq_true] at this
     obtain ⟨ed,he,hb⟩:=this
     simp only [bL] at hb
     exact ⟨ed,by simpa using he,hb.1,ey hb.2⟩
 . intro x hx
   obtain ⟨i,hi,a,v,hp,rfl⟩:=(lG _).1 hx
   unfold lg at hp
   rw [Option.bind_eq_some_iff] at hp
   obtain ⟨o,ho,hp⟩:=hp
   obtain ⟨q1,q2,q3⟩:=J7 hp
   refine ⟨o,v,ho,q1,q2,q3,rfl,fun ed he hb=>?_⟩
   have:=(h3 i hi).2.2
   rw [ho] at this
   simp only [Ek,eC,iL] at this
   have:=this ed (by simpa using he)
   rw [hb] at this
   simpa using this
 . intro lj dY Dk
   have e:lj=fL listed I.l:=by
    apply Array.ext (by rw [uf,dY])
    intro j A7 sd
    have k1:=Dk j
    have k2:=wg I.l listed j
    rw [q9] at k1
    have k3:lj.getD j true=false ↔ (fL listed I.l).getD j true=false:=k1.trans k2.symm
    have e1:lj.getD j true=lj[j]:=by simp [A7]
    have e2:(fL listed I.l).getD j true=(fL listed I.l)[j]:=by simp [sd]
    rw [e1,e2] at k3
    cases h1:lj[j] <;> cases h2:(fL listed I.l)[j] <;> simp_all
   rw [e]
   refine hK1 ρ _ hDs ?_ hK
   intro b hb
   have bT:b ≠ id:=fun e=>hB (e ▸ hb)
   simp only [St.set,if_neg bT]
   exact hI b hb
def tn (P:Program) (ops:Array Oper) (cK:List (Bool × Nat)) (I:mw) (post:List (Bool × Nat)):Bool :=
 (match nh ops cK (Array.replicate ops.size false) with | some l=>o4 ops I l && gH ops post (fL l I.l) | none=>false) && (Nat.beq (cK.length+(I.l.length+post.length)) ops.size && (match pF P I.t with | some (.i,_)=>true | _=>false))
theorem bo.Ny {nt id:Nat} {ro:Ro} {Q:Ex->Env->St->Prop} {ρ:Env} {U:St} (cK:List (Bool × Nat)) (I:mw) (post:List (Bool × Nat)) (hm:C.P.follows .mixedOrders=true) (cr:jY nt ops=true) (hp:tn C.P ops cK I post=true)
 (h:kx C mu ops B U (J5 C ops B I (kx C mu ops B U (KQ Q) (wF Q) post)) (wF Q) cK ρ U):bo C nt ro (.region id ops true) Q ρ U:=by
 simp only [tn,bL] at hp
 obtain ⟨h1,h2,h3⟩:=hp
 have h2:=ey h2
 split at h3
 . rename_i e ht
   split at h1
   . rename_i l hl
     rw [bL] at h1
     refine bo.yf mu (cg B U) hm cr ?_
     have:=vS (MI ht h1.1 (fun dx ad hD' AU hk=>qG post _ dx ad h1.2 hD' (.inr AU) hk)) cK _ ρ U hl (Dn.none _ _) (fun _ _=>rfl) h
     rw [h2] at this
     exact this
   . cases h1
 . cases h3
end
end Go.Rip
namespace Go.Rip
open Go.RowKit
structure Row where
 d:Nat
 l:Nat
 a:Nat
def Jr:Option Nat->Nat
 | some d=>2 ^ d
 | none=>0
def oH:List Nat->Nat
 | []=>0
 | d::l=>Nat.lor (2 ^ d) (oH l)
theorem dv (k:Nat):∀ l:List Nat,(oH l).testBit k=true ↔ k ∈ l
 | []=>by simp [oH]
 | d::l=>by
   show (2 ^ d ||| oH l).testBit k=true ↔ _
   rw [Nat.testBit_or,Nat.testBit_two_pow,iL,dv k l]
   simp [eq_comm]
theorem iQ (k:Nat) (o:Option Nat):(Jr o).testBit k=true ↔ o=some k:=by
 cases o with
 | none=>simp [Jr]
 | some d=>simp [Jr,Nat.testBit_two_pow]
def wZ (o:Oper):List Nat:=(o.after.toList.filter fun e=>Region.binds .any e).map (·.on)
def rowOf (ops:Array Oper) (o:Oper):Row:=⟨Jr o.dst,oH (o.looksAt ops),oH (wZ o)⟩
def lP (a b:Nat):Bool:=Nat.beq (Nat.land a b) a
def Jz (a b:Nat):Bool:=Nat.beq (Nat.land a b) 0
theorem qK {a b:Nat} (h:lP a b=true) (k:Nat) (hk:a.testBit k=true):b.testBit k=true:=by
 have e:a &&& b=a:=ey h
 have:=congrArg (fun n=>n.testBit k) e
 simp only [Nat.testBit_and,hk,Bool.true_and] at this
 exact this
theorem oW {a b:Nat} (h:Jz a b=true) (k:Nat) (hk:a.testBit k=true):¬ b.testBit k=true:=by
 have e:a &&& b=0:=ey h
 have:=congrArg (fun n=>n.testBit k) e
 simp only [Nat.testBit_and,hk,Bool.true_and,Nat.zero_testBit] at this
 simp [this]
def hasB (m i:Nat):Bool:=Nat.beq (Nat.land (Nat.shiftRight m i) 1) 1
theorem ml (m i:Nat):hasB m i=m.testBit i:=by
 have e:Nat.land (Nat.shiftRight m i) 1=1 &&& (m >>> i):=Nat.and_comm _ _
 unfold hasB Nat.testBit
 rw [e]
 cases h:Nat.beq (1 &&& m >>> i) 1 with
 | true=>have:=ey h; rw [this]; rfl
 | false =>
   have h1:(1 &&& m >>> i) ≠ 1:=fun e=>by rw [e] at h; simp at h
   have h2:(1 &&& m >>> i)=0:=by
    have:1 &&& (m >>> i)=(m >>> i) % 2:=Nat.one_and_eq_mod_two _
    omega
   rw [h2]; rfl
def Ev (i:Nat) (x y:Row):Bool:=hasB y.a i || (Jz x.d y.l && (Jz x.d y.d && Jz y.d x.l))
def zQ (done i:Nat) (x:Row):List Row->Nat->Bool
 | [],_=>true
 | y::r,j=>(Nat.beq j i || (hasB done j || Ev i x y)) && zQ done i x r (j+1)
def zP (done i:Nat):List Row->Nat->Bool
 | [],_=>true
 | y::r,j=>(Nat.beq j i || (hasB done j || !lP y.a done)) && zP done i r (j+1)
def vU (rows:List Row) (n:Nat):List (Bool × Nat)->Nat->Bool
 | [],done=>Nat.beq done (2 ^ n - 1)
 | (true,i)::r,done=>match rows[i]? with
   | some x=>!hasB done i && (lP x.a done && (zQ done i x rows 0 && vU rows n r (Nat.lor done (2 ^ i))))
   | none=>false
 | (false,i)::r,done=>match rows[i]? with
   | some x=>!hasB done i && (lP x.a done && (zP done i rows 0 && vU rows n r (Nat.lor done (2 ^ i))))
   | none=>false
theorem xe {done i:Nat} {x:Row}:∀ {l:List Row} {j:Nat},zQ done i x l j=true->∀ k y,l[k]?=some y->(j+k=i\/done.testBit (j+k)=true\/Ev i x y=true)
 | [],_,_,k,y,hy=>by simp at hy
 | z::r,j,h,k,y,hy=>by
   simp only [zQ,bL,iL,ml] at h
   cases k with
   | zero =>
     simp at hy; subst hy
     rcases h.1 with h | h | h
     . exact .inl (ey h)
     . exact .inr (.inl h)
     . exact .inr (.inr h)
   | succ k =>
     have:=xe h.2 k y (by simpa using hy)
     rw [show j+(k+1)=j+1+k by omega]; exact this
theorem xd {done i:Nat}:∀ {l:List Row} {j:Nat},zP done i l j=true->∀ k y,l[k]?=some y->(j+k=i\/done.testBit (j+k)=true\/lP y.a done=false)
 | [],_,_,k,y,hy=>by simp at hy
 | z::r,j,h,k,y,hy=>by
   simp only [zP,bL,iL,ml,Bool.not_eq_true'] at h
   cases k with
   | zero =>
     simp at hy; subst hy
     rcases h.1 with h | h | h
     . exact .inl (ey h)
     . exact .inr (.inl h)
     . exact .inr (.inr h)
   | succ k =>
     have:=xd h.2 k y (by simpa using hy)
     rw [show j+(k+1)=j+1+k by omega]; exact this
def gE (n:Nat) (listed:Array Bool) (done:Nat):Prop:=listed.size=n/\∀ k,k < n->listed[k]?=some (done.testBit k)
section
variable {ops:Array Oper} {listed:Array Bool} {done:Nat}
theorem gE.get (h:gE ops.size listed done) {k:Nat} (hk:k < ops.size) (d:Bool):listed.getD k d=done.testBit k:=by
 have:=h.2 k hk
 simp [this]
theorem gE.out (h:gE ops.size listed done) {k:Nat} (hk:¬ k < ops.size) (d:Bool):listed.getD k d=d:=by
 have:listed[k]?=none:=wc (by rw [h.1]; omega)
 simp [this]
theorem gE.set (h:gE ops.size listed done) (i:Nat):gE ops.size (listed.setIfInBounds i true) (Nat.lor done (2 ^ i)):=by
 refine ⟨by simp [h.1],fun k hk=>?_⟩
 show _=some ((done ||| 2 ^ i).testBit k)
 rw [Nat.testBit_or,Nat.testBit_two_pow]
 by_cases e:i=k
 . subst e
   have:i < listed.size:=by rw [h.1]; exact hk
   simp [Array.getElem?_setIfInBounds,this]
 . rw [Array.getElem?_setIfInBounds_ne e,h.2 k hk]
   simp [e]
theorem we {i:Nat} {x:Row} (h:(ops.toList.map (rowOf ops))[i]?=some x):∃ o,ops[i]?=some o/\x=rowOf ops o:=by
 rw [ln,nX] at h
 obtain ⟨o,ho,e⟩:=h
 exact ⟨o,by simpa using ho,e.symm⟩
theorem rO {o:Oper} {k:Nat}:k ∈ wZ o ↔ ∃ e ∈ o.after,Region.binds .any e=true/\e.on=k:=by
 simp [wZ,and_assoc]
theorem o7 (h:gE ops.size listed done) {j:Nat} {o:Oper} (ho:ops[j]?=some o):j ∈ Region.ready .any ops listed ↔ done.testBit j=false/\∀ k,k ∈ wZ o->k < ops.size/\done.testBit k=true:=by
 have hj:j < ops.size:=(jR.1 ho).1
 rw [mem_ready,h.get hj]
 refine and_congr_right fun _=>⟨?_,?_⟩
 . rintro ⟨o',SZ,bO⟩ k hk
   rw [ho] at SZ; cases SZ
   obtain ⟨e,he,hb,rfl⟩:=rO.1 hk
   have:=bO e he hb
   by_cases hk:e.on < ops.size
   . rw [h.get hk] at this; exact ⟨hk,this⟩
   . rw [h.out hk] at this; cases this
 . intro bO
   refine ⟨o,ho,fun e he hb=>?_⟩
   obtain ⟨hk,ht⟩:=bO e.on (rO.2 ⟨e,he,hb,rfl⟩)
   rw [h.get hk]; exact ht
theorem Ed {i:Nat} {o:Oper} (hm:gE ops.size listed done) (ho:ops[i]?=some o) (h3:zQ done i (rowOf ops o) (ops.toList.map (rowOf ops)) 0=true):Region.free .any ops listed i=true:=by
 simp only [Region.free,ho,eC,List.mem_range,iL]
 intro j hj
 obtain ⟨oj,mY⟩:∃ oj,ops[j]?=some oj:=⟨ops[j],by simp [hj]⟩
 rw [mY]
 have hy:(ops.toList.map (rowOf ops))[j]?=some (rowOf ops oj):=by
  rw [ln]; simp [mY]
 rcases xe h3 j _ hy with e | e | e
 . left; left; simp at e; simp [e]
 . left; right; rw [hm.get hj]; simpa using e
 . right
   simp only [Ev,iL,bL,ml] at e
   show ((oj.after.any fun e=>Region.binds .any e && e.on == i) || o.apart ops oj)=true
   rw [iL]
   rcases e with e | ⟨e1,e2,e3⟩
   . left
     have:=(dv i _).1 e
     obtain ⟨ed,he,hb,Bc⟩:=rO.1 this
     rw [Array.any_eq_true']
     exact ⟨ed,he,by simp [hb,Bc]⟩
   . right
     have k1:∀ d,o.dst=some d->d ∉ oj.looksAt ops:=fun d hd hm=>oW e1 d ((iQ d _).2 hd) ((dv d _).2 hm)
     have k2:∀ d,o.dst=some d->oj.dst ≠ some d:=fun d hd hm=>oW e2 d ((iQ d _).2 hd) ((iQ d _).2 hm)
     have k3:∀ d,oj.dst=some d->d ∉ o.looksAt ops:=fun d hd hm=>oW e3 d ((iQ d _).2 hd) ((dv d _).2 hm)
     unfold Oper.apart
     cases zj:o.dst <;> cases wM:oj.dst <;> simp only [bL,Bool.not_eq_true',bne_iff_ne,ne_eq,Bool.and_self,and_self,true_and,and_true]
     . rename_i d; simpa using k3 d wM
     . rename_i d; exact ⟨by simpa using k1 d zj,by simp⟩
     . rename_i d d'
       refine ⟨⟨by simpa using k1 d zj,fun e=>k2 d zj (by rw [wM]; exact e)⟩,by simpa using k3 d' wM⟩
theorem ye {i:Nat} {o:Oper} (hm:gE ops.size listed done) (ho:ops[i]?=some o) (h1:done.testBit i=false) (sub:∀ k,k ∈ wZ o->k < ops.size/\done.testBit k=true) (h3:zP done i (ops.toList.map (rowOf ops)) 0=true):Region.ready .any ops listed=[i]:=by
 have key:∀ j,j ∈ Region.ready .any ops listed->j=i:=fun j hj=>by
  obtain ⟨h0,oj,mY,_⟩:=mem_ready.1 hj
  have hr:=(o7 hm mY).1 hj
  have Iv:j < ops.size:=(jR.1 mY).1
  have hy:(ops.toList.map (rowOf ops))[j]?=some (rowOf ops oj):=by
   rw [ln]; simp [mY]
  rcases xd h3 j _ hy with e | e | e
  . simpa using e
  . rw [cV] at e; rw [hr.1] at e; cases e
  . exfalso
    have:lP (rowOf ops oj).a done=true:=by
     unfold lP
     have e2:(rowOf ops oj).a &&& done=(rowOf ops oj).a:=by
      apply Nat.eq_of_testBit_eq
      intro k
      rw [Nat.testBit_and]
      cases hk:(rowOf ops oj).a.testBit k with
      | false=>rfl
      | true=>rw [(hr.2 k ((dv k _).1 hk)).2]; rfl
     show Nat.beq ((rowOf ops oj).a &&& done) _=true
     rw [e2]; simp
    rw [this] at e; cases e
 have lG:=(o7 hm ho).2 ⟨h1,sub⟩
 have hnd:(Region.ready .any ops listed).Nodup:=(List.Pairwise.filter _ List.nodup_range)
 match hl:Region.ready .any ops listed with
 | []=>rw [hl] at lG; cases lG
 | [x]=>rw [hl] at key; rw [key x (by simp)]
 | x::y::zs =>
   rw [hl] at key hnd
   have e1:=key x (by simp)
   have e2:=key y (by simp)
   subst e1; subst e2
   simp at hnd
theorem vV:∀ (cK:List (Bool × Nat)) (listed:Array Bool) (done:Nat),gE ops.size listed done->done < 2 ^ ops.size->vU (ops.toList.map (rowOf ops)) ops.size cK done=true->gH ops cK listed=true
 | [],listed,done,hm,aO,h=>by
   have e:done=2 ^ ops.size - 1:=ey h
   simp only [gH,List.isEmpty_iff]
   rw [List.eq_nil_iff_forall_not_mem]
   intro j hj
   obtain ⟨h0,o,ho,_⟩:=mem_ready.1 hj
   have Iv:j < ops.size:=(jR.1 ho).1
   rw [hm.get Iv,e,Nat.testBit_two_pow_sub_one] at h0
   simp [Iv] at h0
 | (true,i)::r,listed,done,hm,aO,h=>by
   simp only [vU] at h
   split at h
   . rename_i x hx
     obtain ⟨o,ho,rfl⟩:=we hx
     simp only [bL,Bool.not_eq_true',ml] at h
     obtain ⟨h1,h2,h3,h4⟩:=h
     have hi:i < ops.size:=(jR.1 ho).1
     have qQ:Nat.lor done (2 ^ i) < 2 ^ ops.size:=Nat.or_lt_two_pow aO (Nat.pow_lt_pow_right (by omega) hi)
     have sub:∀ k,k ∈ wZ o->k < ops.size/\done.testBit k=true:=fun k hk=>by
      have:=qK h2 k ((dv k _).2 hk)
      refine ⟨?_,this⟩
      rcases je k ops.size with h | h
      . exact h
      . rw [Nat.testBit_lt_two_pow (Nat.lt_of_lt_of_le aO (Nat.pow_le_pow_right (by omega) h))] at this; cases this
     simp only [gH,bL]
     refine ⟨⟨?_,?_⟩,vV r _ _ (hm.set i) qQ h4⟩
     . simp only [List.contains_iff_mem]
       exact (o7 hm ho).2 ⟨h1,sub⟩
     . simp only [Region.free,ho,eC,List.mem_range,iL]
       intro j hj
       obtain ⟨oj,mY⟩:∃ oj,ops[j]?=some oj:=⟨ops[j],by simp [hj]⟩
       rw [mY]
       have hy:(ops.toList.map (rowOf ops))[j]?=some (rowOf ops oj):=by
        rw [ln]; simp [mY]
       rcases xe h3 j _ hy with e | e | e
       . left; left; simp at e; simp [e]
       . left; right; rw [hm.get hj]; simpa using e
       . right
         simp only [Ev,iL,bL,ml] at e
         show ((oj.after.any fun e=>Region.binds .any e && e.on == i) || o.apart ops oj)=true
         rw [iL]
         rcases e with e | ⟨e1,e2,e3⟩
         . left
           have:=(dv i _).1 e
           obtain ⟨ed,he,hb,Bc⟩:=rO.1 this
           rw [Array.any_eq_true']
           exact ⟨ed,he,by simp [hb,Bc]⟩
         . right
           have k1:∀ d,o.dst=some d->d ∉ oj.looksAt ops:=fun d hd hm=>oW e1 d ((iQ d _).2 hd) ((dv d _).2 hm)
           have k2:∀ d,o.dst=some d->oj.dst ≠ some d:=fun d hd hm=>oW e2 d ((iQ d _).2 hd) ((iQ d _).2 hm)
           have k3:∀ d,oj.dst=some d->d ∉ o.looksAt ops:=fun d hd hm=>oW e3 d ((iQ d _).2 hd) ((dv d _).2 hm)
           unfold Oper.apart
           cases zj:o.dst <;> cases wM:oj.dst <;> simp only [bL,Bool.not_eq_true',bne_iff_ne,ne_eq,Bool.and_self,and_self,true_and,and_true]
           . rename_i d; simpa using k3 d wM
           . rename_i d; exact ⟨by simpa using k1 d zj,by simp⟩
           . rename_i d d'
             refine ⟨⟨by simpa using k1 d zj,fun e=>k2 d zj (by rw [wM]; exact e)⟩,by simpa using k3 d' wM⟩
   . cases h
 | (false,i)::r,listed,done,hm,aO,h=>by
   simp only [vU] at h
   split at h
   . rename_i x hx
     obtain ⟨o,ho,rfl⟩:=we hx
     simp only [bL,Bool.not_eq_true',ml] at h
     obtain ⟨h1,h2,h3,h4⟩:=h
     have hi:i < ops.size:=(jR.1 ho).1
     have qQ:Nat.lor done (2 ^ i) < 2 ^ ops.size:=Nat.or_lt_two_pow aO (Nat.pow_lt_pow_right (by omega) hi)
     have sub:∀ k,k ∈ wZ o->k < ops.size/\done.testBit k=true:=fun k hk=>by
      have:=qK h2 k ((dv k _).2 hk)
      refine ⟨?_,this⟩
      rcases je k ops.size with h | h
      . exact h
      . rw [Nat.testBit_lt_two_pow (Nat.lt_of_lt_of_le aO (Nat.pow_le_pow_right (by omega) h))] at this; cases this
     simp only [gH,bL,beq_iff_eq]
     refine ⟨?_,vV r _ _ (hm.set i) qQ h4⟩
     have key:∀ j,j ∈ Region.ready .any ops listed->j=i:=fun j hj=>by
      obtain ⟨h0,oj,mY,_⟩:=mem_ready.1 hj
      have hr:=(o7 hm mY).1 hj
      have Iv:j < ops.size:=(jR.1 mY).1
      have hy:(ops.toList.map (rowOf ops))[j]?=some (rowOf ops oj):=by
       rw [ln]; simp [mY]
      rcases xd h3 j _ hy with e | e | e
      . simpa using e
      . rw [cV] at e; rw [hr.1] at e; cases e
      . exfalso
        have:lP (rowOf ops oj).a done=true:=by
         unfold lP
         have e2:(rowOf ops oj).a &&& done=(rowOf ops oj).a:=by
          apply Nat.eq_of_testBit_eq
          intro k
          rw [Nat.testBit_and]
          cases hk:(rowOf ops oj).a.testBit k with
          | false=>rfl
          | true=>rw [(hr.2 k ((dv k _).1 hk)).2]; rfl
         show Nat.beq ((rowOf ops oj).a &&& done) _=true
         rw [e2]; simp
        rw [this] at e; cases e
     have lG:=(o7 hm ho).2 ⟨h1,sub⟩
     have hnd:(Region.ready .any ops listed).Nodup:=(List.Pairwise.filter _ List.nodup_range)
     match hl:Region.ready .any ops listed with
     | []=>rw [hl] at lG; cases lG
     | [x]=>rw [hl] at key; rw [key x (by simp)]
     | x::y::zs =>
       rw [hl] at key hnd
       have e1:=key x (by simp)
       have e2:=key y (by simp)
       subst e1; subst e2
       simp at hnd
   . cases h
end
def BE:List Row->List Row->Bool
 | [],[]=>true
 | x::xs,y::ys=>Nat.beq x.d y.d && (Nat.beq x.l y.l && (Nat.beq x.a y.a && BE xs ys))
 | _,_=>false
theorem Al:∀ {a b:List Row},BE a b=true->a=b
 | [],[],_=>rfl
 | x::xs,y::ys,h=>by
   simp only [BE,bL] at h
   obtain ⟨h1,h2,h3,h4⟩:=h
   obtain ⟨a,b,c⟩:=x
   obtain ⟨a',b',c'⟩:=y
   have e1:a=a':=ey h1
   have e2:b=b':=ey h2
   have e3:c=c':=ey h3
   rw [e1,e2,e3,Al h4]
 | [],_::_,h=>by cases h
 | _::_,[],h=>by cases h
structure Pl where
 steps:List (Bool × Nat)
 rows:List Row
def Gy (ops:Array Oper) (p:Pl):Bool:=BE (ops.toList.map (rowOf ops)) p.rows && (vU p.rows ops.size p.steps 0 && Nat.beq p.steps.length ops.size)
theorem CB {ops:Array Oper} {p:Pl} (h:Gy ops p=true):(gH ops p.steps (Array.replicate ops.size false) && (p.steps.length == ops.size))=true:=by
 simp only [Gy,bL] at h
 obtain ⟨h1,h2,h3⟩:=h
 rw [<- Al h1] at h2
 simp only [bL,beq_iff_eq]
 refine ⟨vV _ _ 0 ⟨by simp,fun k hk=>by simp [hk]⟩ (Nat.two_pow_pos _) h2,ey h3⟩
def o6 (ops:Array Oper) (rows:List Row):List (Bool × Nat)->Nat->Option Nat
 | [],done=>some done
 | (true,i)::r,done=>match rows[i]? with
   | some x=>cond (!hasB done i && (lP x.a done && zQ done i x rows 0)) (o6 ops rows r (Nat.lor done (2 ^ i))) none
   | none=>none
 | (false,i)::r,done=>match rows[i]? with
   | some x=>cond (!hasB done i && (lP x.a done && (zP done i rows 0 && !mJ ops i))) (o6 ops rows r (Nat.lor done (2 ^ i))) none
   | none=>none
section
variable {ops:Array Oper}
theorem vW:∀ (cK:List (Bool × Nat)) (listed:Array Bool) (done dn:Nat),gE ops.size listed done->done < 2 ^ ops.size->o6 ops (ops.toList.map (rowOf ops)) cK done=some dn ->
 ∃ l,nh ops cK listed=some l/\gE ops.size l dn/\dn < 2 ^ ops.size
 | [],listed,done,dn,hm,aO,h=>by
   simp only [o6,gK] at h
   subst h
   exact ⟨listed,rfl,hm,aO⟩
 | (b,i)::r,listed,done,dn,hm,aO,h=>by
   obtain ⟨x,hx⟩:∃ x,(ops.toList.map (rowOf ops))[i]?=some x:=by
    cases b <;> simp only [o6] at h <;> split at h <;> first | exact ⟨_,by assumption⟩ | cases h
   obtain ⟨o,ho,rfl⟩:=we hx
   have hi:i < ops.size:=(jR.1 ho).1
   have qQ:Nat.lor done (2 ^ i) < 2 ^ ops.size:=Nat.or_lt_two_pow aO (Nat.pow_lt_pow_right (by omega) hi)
   have sub:lP (rowOf ops o).a done=true->∀ k,k ∈ wZ o->k < ops.size/\done.testBit k=true:=fun h2 k hk=>by
    have:=qK h2 k ((dv k _).2 hk)
    refine ⟨?_,this⟩
    rcases je k ops.size with h | h
    . exact h
    . rw [Nat.testBit_lt_two_pow (Nat.lt_of_lt_of_le aO (Nat.pow_le_pow_right (by omega) h))] at this; cases this
   cases b with
   | true =>
     simp only [o6,hx] at h
     cases hc:(!hasB done i && (lP (rowOf ops o).a done && zQ done i (rowOf ops o) (ops.toList.map (rowOf ops)) 0)) with
     | false=>rw [hc] at h; cases h
     | true =>
       rw [hc,cond_true] at h
       simp only [bL,Bool.not_eq_true',ml] at hc
       obtain ⟨l,k1,k2,k3⟩:=vW r _ _ dn (hm.set i) qQ h
       refine ⟨l,?_,k2,k3⟩
       have FV:(Region.ready .any ops listed).contains i=true:=by
        simp only [List.contains_iff_mem]; exact (o7 hm ho).2 ⟨hc.1,sub hc.2.1⟩
       have Er:Region.free .any ops listed i=true:=Ed hm ho hc.2.2
       simp only [nh,FV,Er,Bool.and_self,cond_true]
       exact k1
   | false =>
     simp only [o6,hx] at h
     cases hc:(!hasB done i && (lP (rowOf ops o).a done && (zP done i (ops.toList.map (rowOf ops)) 0 && !mJ ops i))) with
     | false=>rw [hc] at h; cases h
     | true =>
       rw [hc,cond_true] at h
       simp only [bL,Bool.not_eq_true',ml] at hc
       obtain ⟨l,k1,k2,k3⟩:=vW r _ _ dn (hm.set i) qQ h
       refine ⟨l,?_,k2,k3⟩
       have zZ:Region.ready .any ops listed=[i]:=ye hm ho hc.1 (sub hc.2.1) hc.2.2.1
       have Mv:mJ ops i=false:=by simpa using hc.2.2.2
       simp only [nh,zZ,Mv,gm,eA,Bool.and_self,cond_true]
       exact k1
def Jp (im:Nat) (done:Nat):List Row->Nat->Bool
 | [],_=>true
 | y::r,j=>(hasB done j || (hasB im j || lP im y.a)) && Jp im done r (j+1)
def MO (ops:Array Oper) (rows:List Row) (I:mw) (done:Nat):Bool:=I.l.all fun i=>!hasB done i && ((lg ops I i).isSome && (match rows[i]? with | some x=>lP x.a done | none=>false))
def increasing:List Nat->Bool
 | a::b::l=>Nat.blt a b && increasing (b::l)
 | _=>true
def qt:List Int->Bool
 | a::b::l=>decide (a < b) && qt (b::l)
 | _=>true
def Ac (P:Program) (ops:Array Oper) (rows:List Row) (cK:List (Bool × Nat)) (I:mw) (post:List (Bool × Nat)):Bool :=
 BE (ops.toList.map (rowOf ops)) rows && ((match o6 ops rows cK 0 with
  | some dn=>Jp (oH I.l) dn rows 0 && (MO ops rows I dn && vU rows ops.size post (Nat.lor dn (oH I.l)))
  | none=>false) && (increasing I.l && (qt (I.l.map fun i=>((lg ops I i).map (·.1)).getD 0) && (Nat.beq (cK.length+(I.l.length+post.length)) ops.size && (match pF P I.t with | some (.i,_)=>true | _=>false)))))
theorem wR:∀ l:List Nat,increasing l=true->l.Pairwise (· < ·)
 | [],_=>List.Pairwise.nil
 | [a],_=>List.pairwise_singleton ..
 | a::b::l,h=>by
   simp only [increasing,bL] at h
   have It:a < b:=Nat.le_of_ble_eq_true h.1
   have ih:=wR (b::l) h.2
   refine List.Pairwise.cons (fun y hy=>?_) ih
   rcases cD.1 hy with rfl | hy
   . exact It
   . exact Nat.lt_trans It ((List.pairwise_cons.1 ih).1 y hy)
theorem uQ:∀ l:List Int,qt l=true->l.Pairwise (· < ·)
 | [],_=>List.Pairwise.nil
 | [a],_=>List.pairwise_singleton ..
 | a::b::l,h=>by
   simp only [qt,bL,dI] at h
   have ih:=uQ (b::l) h.2
   refine List.Pairwise.cons (fun y hy=>?_) ih
   rcases cD.1 hy with rfl | hy
   . exact h.1
   . exact Int.lt_trans h.1 ((List.pairwise_cons.1 ih).1 y hy)
theorem C0 {im done:Nat}:∀ {l:List Row} {j:Nat},Jp im done l j=true->∀ k y,l[k]?=some y->(done.testBit (j+k)=true\/im.testBit (j+k)=true\/lP im y.a=true)
 | [],_,_,k,y,hy=>by simp at hy
 | z::r,j,h,k,y,hy=>by
   simp only [Jp,bL,iL,ml] at h
   cases k with
   | zero=>simp at hy; subst hy; exact h.1
   | succ k =>
     have:=C0 h.2 k y (by simpa using hy)
     rw [show j+(k+1)=j+1+k by omega]; exact this
theorem gE.fL {n:Nat}:∀ (l:List Nat) (listed:Array Bool) (done:Nat),gE ops.size listed done->gE ops.size (Go.Rip.fL listed l) (Nat.lor done (oH l))
 | [],listed,done,h=>by
   show gE ops.size listed (done ||| 0)
   rw [Nat.or_zero]; exact h
 | i::l,listed,done,h=>by
   have:=gE.fL (n:=n) l _ _ (h.set i)
   show gE ops.size (Go.Rip.fL (listed.setIfInBounds i true) l) (done ||| (2 ^ i ||| oH l))
   rw [<- Nat.or_assoc]; exact this
theorem HS {P:Program} {rows:List Row} {cK:List (Bool × Nat)} {I:mw} {post:List (Bool × Nat)} (h:Ac P ops rows cK I post=true):tn P ops cK I post=true:=by
 simp only [Ac,bL] at h
 obtain ⟨h1,h2,h3,h4,h5,h6⟩:=h
 rw [<- Al h1] at h2
 split at h2
 . rename_i dn hd
   simp only [bL] at h2
   obtain ⟨b1,b2,b3⟩:=h2
   obtain ⟨l,k1,k2,k3⟩:=vW cK (Array.replicate ops.size false) 0 dn ⟨by simp,fun k hk=>by simp [hk]⟩ (Nat.two_pow_pos _) hd
   have ac4:=wR _ h3
   have abi:=uQ _ h4
   simp only [MO,eC,bL,Bool.not_eq_true',ml] at b2
   have vD:∀ i ∈ I.l,∃ o,ops[i]?=some o/\lP (rowOf ops o).a dn=true:=fun i hi=>by
    have:=(b2 i hi).2.2
    split at this
    . rename_i x hx
      obtain ⟨o,ho,rfl⟩:=we hx
      exact ⟨o,ho,this⟩
    . cases this
   have aO:∀ i ∈ I.l,i < ops.size:=fun i hi=>by
    obtain ⟨o,ho,_⟩:=vD i hi
    exact (jR.1 ho).1
   have him:oH I.l < 2 ^ ops.size:=by
    have:∀ l:List Nat,(∀ i ∈ l,i < ops.size)->oH l < 2 ^ ops.size:=fun l=>by
     induction l with
     | nil=>intro _; exact Nat.two_pow_pos _
     | cons i l ih=>intro hh; exact Nat.or_lt_two_pow (Nat.pow_lt_pow_right (by omega) (hh i (by simp))) (ih fun j hj=>hh j (by simp [hj]))
    exact this _ aO
   have VO:∀ {o:Oper} {m:Nat},m < 2 ^ ops.size->lP (rowOf ops o).a m=true->∀ e ∈ o.after,Region.binds .any e=true->m.testBit e.on=true:=fun {o m} Ms hs e he hb =>
    qK hs e.on ((dv _ _).2 (rO.2 ⟨e,he,hb,rfl⟩))
   simp only [tn,k1,bL]
   refine ⟨⟨?_,vV post _ _ (gE.fL (n:=0) I.l l dn k2) (Nat.or_lt_two_pow k3 him) b3⟩,h5,h6⟩
   simp only [o4,Ca,bL,eC,List.mem_range,iL,dI,Bool.not_eq_true']
   refine ⟨fun j hj=>?_,fun i hi=>?_,?_,fun i hi=>⟨?_,(b2 i hi).2.1,?_⟩,ac4.imp (fun h=>Nat.ne_of_lt h),abi.imp (fun h=>Int.ne_of_lt h)⟩
   . obtain ⟨o,ho⟩:∃ o,ops[j]?=some o:=⟨ops[j],by simp [hj]⟩
     have hy:(ops.toList.map (rowOf ops))[j]?=some (rowOf ops o):=by rw [ln]; simp [ho]
     rcases C0 b1 j _ hy with h | h | h
     . left; rw [k2.get hj]; simpa using h
     . right; left
       have:=(dv _ _).1 h
       simpa using this
     . right; right
       rw [ho]
       show (I.l.all fun i=>o.after.toList.any fun e=>Region.binds .any e && Nat.beq e.on i)=true
       rw [eC]
       intro i hi
       have:=qK h i ((dv _ _).2 hi)
       obtain ⟨e,he,hb,Bc⟩:=rO.1 ((dv _ _).1 this)
       rw [List.any_eq_true]
       exact ⟨e,by simpa using he,by simp [hb,Bc]⟩
   . rw [k2.get (aO i hi)]; exact (b2 i hi).1
   . rw [k2.1]; simp
   . show Nat.ble (i+1) ops.size=true
     exact Nat.ble_eq_true_of_le (aO i hi)
   . obtain ⟨o,ho,hs⟩:=vD i hi
     rw [ho]
     simp only [Ek,eC,iL,Bool.not_eq_true']
     intro e he
     cases hb:Region.binds .any e with
     | false=>exact .inl rfl
     | true =>
       right
       have ht:=VO k3 hs e (by simpa using he) hb
       have qQ:e.on < ops.size:=by
        rcases je e.on ops.size with h | h
        . exact h
        . rw [Nat.testBit_lt_two_pow (Nat.lt_of_lt_of_le k3 (Nat.pow_le_pow_right (by omega) h))] at ht; cases ht
       rw [k2.get qQ]; exact ht
 . cases h2
end
end Go.Rip
namespace Go.Rip
open Go.RowKit
inductive T (α:Type) where
 | e
 | n (l:T α) (v:Option α) (r:T α)
theorem xX {a b:Nat} (h:a ≠ b):Nat.beq a b=false:=by
 cases hb:Nat.beq a b with
 | false=>rfl
 | true=>exact absurd (ey hb) h
theorem Ky {a b:Nat} (h:a=b):Nat.beq a b=true:=by subst h; exact Nat.beq_refl a
namespace T
variable {α:Type}
def get:T α->Nat->Option α
 | .e,_=>none
 | .n l v r,i=>cond (Nat.beq i 0) v (cond (Nat.beq (i % 2) 1) (l.get (i / 2)) (r.get (i / 2 - 1)))
def wh:Nat->T α->Nat->Option α->T α
 | 0,t,_,_=>t
 | f+1,.e,i,v=>cond (Nat.beq i 0) (.n .e v .e) (cond (Nat.beq (i % 2) 1) (.n (wh f .e (i / 2) v) none .e) (.n .e none (wh f .e (i / 2 - 1) v)))
 | f+1,.n l w r,i,v=>cond (Nat.beq i 0) (.n l v r) (cond (Nat.beq (i % 2) 1) (.n (wh f l (i / 2) v) w r) (.n l w (wh f r (i / 2 - 1) v)))
def set (t:T α) (i:Nat) (v:Option α):T α:=wh (i+1) t i v
theorem QN:∀ (f:Nat) (t:T α) (i j:Nat) (v:Option α),i < f->(wh f t i v).get j=if j=i then v else t.get j:=by
 intro f
 induction f with
 | zero=>intro t i j v h; omega
 | succ f ih =>
   intro t i j v h
   have key:∀ (l r:T α) (w:Option α),(cond (Nat.beq i 0) (.n l v r) (cond (Nat.beq (i % 2) 1) (.n (wh f l (i / 2) v) w r) (.n l w (wh f r (i / 2 - 1) v))):T α).get j=if j=i then v else (T.n l w r).get j:=fun l r w=>by
    by_cases hi:i=0
    . subst hi
      simp only [Nat.beq_refl,cond_true,get]
      by_cases hj:j=0
      . subst hj; simp
      . have:Nat.beq j 0=false:=xX hj
        simp [this,hj]
    . have xH:Nat.beq i 0=false:=xX hi
      rw [xH,cond_false]
      by_cases h1:i % 2=1
      . have hb:Nat.beq (i % 2) 1=true:=Ky h1
        rw [hb,cond_true]
        simp only [get]
        by_cases hj:j=0
        . subst hj
          have:(0:Nat) ≠ i:=fun e=>hi e.symm
          simp [this]
        . have Dh:Nat.beq j 0=false:=xX hj
          rw [Dh,cond_false,cond_false]
          by_cases A7:j % 2=1
          . have FF:Nat.beq (j % 2) 1=true:=Ky A7
            rw [FF,cond_true,cond_true,ih _ _ _ _ (by omega)]
            by_cases e:j=i
            . subst e; simp
            . rw [if_neg (by omega),if_neg e]
          . have FF:Nat.beq (j % 2) 1=false:=xX A7
            rw [FF,cond_false,cond_false,if_neg (by omega)]
      . have hb:Nat.beq (i % 2) 1=false:=xX h1
        rw [hb,cond_false]
        simp only [get]
        by_cases hj:j=0
        . subst hj
          have:(0:Nat) ≠ i:=fun e=>hi e.symm
          simp [this]
        . have Dh:Nat.beq j 0=false:=xX hj
          rw [Dh,cond_false,cond_false]
          by_cases A7:j % 2=1
          . have FF:Nat.beq (j % 2) 1=true:=Ky A7
            rw [FF,cond_true,cond_true,if_neg (by omega)]
          . have FF:Nat.beq (j % 2) 1=false:=xX A7
            rw [FF,cond_false,cond_false,ih _ _ _ _ (by omega)]
            by_cases e:j=i
            . subst e; simp
            . rw [if_neg (by omega),if_neg e]
   cases t with
   | n l w r=>exact key l r w
   | e =>
     have:=key .e .e none
     simp only [wh]
     rw [this]
     congr 1
     simp only [get]
     cases Nat.beq j 0 <;> cases Nat.beq (j % 2) 1 <;> rfl
theorem rQ (t:T α) (i j:Nat) (v:Option α):(t.set i v).get j=if j=i then v else t.get j:=QN _ _ _ _ _ (by omega)
def IY:List α->Nat->T α->T α
 | [],_,t=>t
 | x::xs,i,t=>IY xs (i+1) (t.set i (some x))
theorem Is:∀ (l:List α) (i:Nat) (t:T α) (j:Nat),(IY l i t).get j=if i <= j/\j < i+l.length then l[j - i]? else t.get j
 | [],i,t,j=>by simp [IY]; omega
 | x::xs,i,t,j=>by
   simp only [IY]
   rw [Is xs (i+1) _ j,rQ]
   by_cases h1:i+1 <= j/\j < i+1+xs.length
   . rw [if_pos h1,if_pos (by simp; omega)]
     have:j - i=(j - (i+1))+1:=by omega
     rw [this]; simp
   . rw [if_neg h1]
     by_cases h2:j=i
     . subst h2; simp
     . rw [if_neg h2,if_neg (by simp; omega)]
end T
def eN (t:T AV):Env:=⟨fun i=>(t.get i).getD (.aF [])⟩
theorem LL (t:T AV) (d:Nat) (v:AV):eN (t.set d (some v))=(eN t).put d v:=by
 simp only [eN,Env.put,Env.mk.injEq]
 funext i
 rw [T.rQ]
 split <;> rfl
def ya (t:T AV):Option Nat->AV->T AV
 | some d,v=>t.set d (some v)
 | none,_=>t
theorem oX (t:T AV) (d:Option Nat) (v:AV):eN (ya t d v)=(eN t).dM d v:=by
 cases d with
 | none=>rfl
 | some d=>exact LL t d v
theorem JA (l:List AV):eN (T.IY l 0 .e)=Env.iJ l:=by
 simp only [eN,Env.iJ,Env.mk.injEq]
 funext i
 rw [T.Is]
 by_cases h:i < l.length
 . rw [if_pos (by omega)]; simp [qf]
 . rw [if_neg (by omega)]
   simp [T.get,qf,wb (Nat.le_of_not_lt h)]
structure ES where
 live:T Live
 n:Nat
def bC (e:ES):St:=⟨fun b=>e.live.get b,some e.n⟩
def ES.set (e:ES) (b:Nat) (x:Live):ES:=⟨e.live.set b (some x),e.n⟩
def ES.del (e:ES) (b:Nat):ES:=⟨e.live.set b none,e.n⟩
def ES.qO (e:ES):Option Nat->ES
 | some b=>e.del b
 | none=>e
def ES.new (e:ES) (x:Live):ES:=⟨e.live.set e.n (some x),e.n+1⟩
theorem lN (e:ES) (b:Nat) (x:Live):bC (e.set b x)=(bC e).set b x:=by
 simp only [bC,ES.set,St.set,St.mk.injEq,and_true]
 funext y; rw [T.rQ]
theorem Ar (e:ES) (b:Nat):bC (e.del b)=(bC e).del b:=by
 simp only [bC,ES.del,St.del,St.mk.injEq,and_true]
 funext y; rw [T.rQ]
theorem PO (e:ES) (b:Option Nat):bC (e.qO b)=(bC e).qO b:=by
 cases b with
 | none=>rfl
 | some b=>exact Ar e b
theorem ql (e:ES) (x:Live):bC (e.new x)=(bC e).new e.n x:=by
 simp only [bC,ES.new,St.new,St.mk.injEq,Option.map_some,and_true]
 funext y; rw [T.rQ]
def Qw:Fn->Fn->Bool
 | .func a,.func b=>Nat.beq a b
 | _,_=>false
theorem UB {a b:Fn} (h:Qw a b=true):a=b:=by
 cases a <;> cases b <;> simp only [Qw,bJ] at h
 rw [ey h]
def JB:j9->j9->Bool
 | .full,.full=>true
 | .own a,.own b=>Nat.beq a b
 | .jD,.jD=>true
 | _,_=>false
theorem Qv {a b:j9} (h:JB a b=true):a=b:=by
 cases a <;> cases b <;> simp only [JB,bJ] at h <;> first
  | rfl
  | rw [ey h]
mutual
def ij:AV->AV->Bool
 | .bool a,.bool b=>a == b
 | .int k a,.int k' b=>decide (k=k') && decide (a=b)
 | .str a,.str b=>decide (a=b)
 | .aV,.aV | .aw,.aw | .jq,.jq | .dj,.dj | .cJ,.cJ=>true
 | .box a i,.box b j=>Nat.beq a b && Nat.beq i j
 | .cn l,.cn l'=>nS l l'
 | .vec n c l,.vec n' c' l'=>Nat.beq n n' && JB c c' && nS l l'
 | .ms b o n z e,.ms b' o' n' z' e'=>Nat.beq b b' && Nat.beq o o' && Nat.beq n n' && Nat.beq z z' && Nat.beq e e'
 | .mp a,.mp b=>Nat.beq a b
 | .eZ ks vs,.eZ ks' vs'=>nS ks ks' && nS vs vs'
 | .func f a b,.func f' a' b'=>Qw f f' && nS a a' && nS b b'
 | .iface t v,.iface t' v'=>Nat.beq t t' && ij v v'
 | .agg l,.agg l'=>nS l l'
 | .aF l,.aF l'=>nS l l'
 | .pX a,.pX b=>Nat.beq a b
 | .it a,.it b=>Nat.beq a b
 | .any,.any=>true
 | _,_=>false
def nS:List AV->List AV->Bool
 | [],[]=>true
 | x::xs,y::ys=>ij x y && nS xs ys
 | _,_=>false
end
mutual
theorem ux:∀ {a b:AV},ij a b=true->a=b
 | .bool a,b,h=>by cases b <;> simp only [ij,bJ] at h; simpa using h
 | .int k a,b,h=>by cases b <;> simp only [ij,bJ] at h; simpa using h
 | .str a,b,h=>by cases b <;> simp only [ij,bJ] at h; simpa using h
 | .aV,b,h=>by cases b <;> simp only [ij,bJ] at h; rfl
 | .aw,b,h=>by cases b <;> simp only [ij,bJ] at h; rfl
 | .jq,b,h=>by cases b <;> simp only [ij,bJ] at h; rfl
 | .dj,b,h=>by cases b <;> simp only [ij,bJ] at h; rfl
 | .cJ,b,h=>by cases b <;> simp only [ij,bJ] at h; rfl
 | .box a i,b,h=>by cases b <;> simp only [ij,bJ,bL] at h; rw [ey h.1,ey h.2]
 | .cn l,b,h=>by cases b <;> simp only [ij,bJ] at h; rw [jG h]
 | .vec n c l,b,h=>by cases b <;> simp only [ij,bJ,bL] at h; rw [ey h.1.1,Qv h.1.2,jG h.2]
 | .ms b o n z e,b',h=>by
   cases b' <;> simp only [ij,bJ,bL] at h
   rw [ey h.1.1.1.1,ey h.1.1.1.2,ey h.1.1.2,ey h.1.2,ey h.2]
 | .mp a,b,h=>by cases b <;> simp only [ij,bJ] at h; rw [ey h]
 | .eZ ks vs,b,h=>by cases b <;> simp only [ij,bJ,bL] at h; rw [jG h.1,jG h.2]
 | .func f a b,b',h=>by cases b' <;> simp only [ij,bJ,bL] at h; rw [UB h.1.1,jG h.1.2,jG h.2]
 | .iface t v,b,h=>by cases b <;> simp only [ij,bJ,bL] at h; rw [ey h.1,ux h.2]
 | .agg l,b,h=>by cases b <;> simp only [ij,bJ] at h; rw [jG h]
 | .aF l,b,h=>by cases b <;> simp only [ij,bJ] at h; rw [jG h]
 | .pX a,b,h=>by cases b <;> simp only [ij,bJ] at h; rw [ey h]
 | .it a,b,h=>by cases b <;> simp only [ij,bJ] at h; rw [ey h]
 | .any,b,h=>by cases b <;> simp only [ij,bJ] at h; rfl
theorem jG:∀ {a b:List AV},nS a b=true->a=b
 | [],b,h=>by cases b <;> simp only [nS,bJ] at h; rfl
 | x::xs,b,h=>by cases b <;> simp only [nS,bJ,bL] at h; rw [ux h.1,jG h.2]
end
def Fj:Option Live->Option Live->Bool
 | some (.box l),some (.box l')=>nS l l'
 | some (.mp a b),some (.mp a' b')=>nS a a' && nS b b'
 | _,_=>false
theorem LM {a b:Option Live} (h:Fj a b=true):a=b:=by
 unfold Fj at h
 split at h
 . rw [jG h]
 . simp only [bL] at h; rw [jG h.1,jG h.2]
 . cases h
end Go.Rip
namespace Go.Rip
open Go.RowKit
structure gM where
 C:cq
 mu:Nat->List Nat
 pf:Nat->Bool
 sm:Nat->List AV->Option AV
 T4:Nat->List AV->ES->Option (AV × ES)
 tr:Nat->Bool
 ft:TypeId
 ins:Nat->Nat->Option (List Row × List (Bool × Nat) × mw × List (Bool × Nat)):=fun _ _=>none
abbrev KR:=cA->ES->Bool
abbrev KC:=Ex->T AV->ES->Bool
abbrev rk:=Nat->List AV->ES->KR->Bool
def rK (k kp:AV->ES->Bool):KR
 | .ret v,e=>k v e
 | .panic v,e=>kp v e
def yS (cf cy:rk) (e:ES):aD->(AV->ES->Bool)->(AV->ES->Bool)->Bool
 | .val v,k,_=>k v e
 | .gx v b x,k,_=>k v (e.set b x)
 | .new kd del x,k,_=>k (kd.at e.n) ((e.qO del).new x)
 | .ki b l,k,_=>l.all fun p=>k p.1 (e.set b p.2)
 | .enter f args,k,kp=>cf f args e (rK k kp)
 | .yield o args,k,kp=>cy o args e (rK k kp)
 | .panic v,_,kp=>kp v e
 | @aD.cond p d r,k,kp=>(@decide p d) && yS cf cy e r k kp
 | .bad,_,_=>false
def AL (V:gM) (cf cy:rk) (mu:List Nat) (ops:Array Oper):List Oper->T AV->ES->(T AV->ES->Bool)->(AV->ES->Bool)->Bool
 | [],ρ,e,k,_=>k ρ e
 | o::rest,ρ,e,k,kp=>match gq ops (eN ρ) o.guard with
   | .bool true=>yS cf cy e (iK V.C (mC mu o) o.op (eN ρ) (bC e)) (fun v e'=>AL V cf cy mu ops rest (ya ρ o.dst v) e' k kp) kp
   | .bool false=>AL V cf cy mu ops rest (ya ρ o.dst (.aF [])) e k kp
   | _=>false
def Jj (V:gM):aD->Option AV
 | .val v=>some v
 | @aD.cond p d r=>cond (@decide p d) (Jj V r) none
 | .enter f args=>V.sm f args
 | _=>none
def KN (B:List Nat) (e0 e:ES):Bool:=B.all fun b=>Fj (e.live.get b) (e0.live.get b)
def Ck (C:cq) (B:List Nat) (ρ:Env) (op:Op):Bool:=op.operands.toList.all fun x=>(cM (ρ.ev C x)).all fun b=>B.any fun c=>Nat.beq c b
def oe (V:gM) (cf cy:rk) (mu:List Nat) (ops:Array Oper) (B:List Nat) (e0:ES):List (Bool × Nat)->T AV->ES->(T AV->ES->Bool)->(AV->ES->Bool)->Bool
 | [],ρ,e,k,_=>k ρ e
 | (true,i)::r,ρ,e,k,kp=>match ops[i]? with
   | none=>false
   | some o=>match gq ops (eN ρ) o.guard with
     | .bool true=>quiet o.op && (!nI o.op || Ck V.C B (eN ρ) o.op) && (match Jj V (iK V.C (mC mu o) o.op (eN ρ) (bC e0)) with
       | some v=>oe V cf cy mu ops B e0 r (ya ρ o.dst v) e k kp
       | none=>false)
     | .bool false=>oe V cf cy mu ops B e0 r (ya ρ o.dst (.aF [])) e k kp
     | _=>false
 | (false,i)::r,ρ,e,k,kp=>match ops[i]? with
   | none=>false
   | some o=>match gq ops (eN ρ) o.guard with
     | .bool true=>yS cf cy e (iK V.C (mC mu o) o.op (eN ρ) (bC e)) (fun v e'=>(KN B e0 e' || qx ops i) && oe V cf cy mu ops B e0 r (ya ρ o.dst v) e' k kp) kp
     | .bool false=>oe V cf cy mu ops B e0 r (ya ρ o.dst (.aF [])) e k kp
     | _=>false
def Nw (V:gM) (o:Oper):Bool:=match o.op with
 | .call c=>match c.callee with
   | .value (.func f)=>V.pf f
   | .value _=>false
   | _=>quiet o.op
 | op=>quiet op
def xW (V:gM) (ops:Array Oper):Nat->Array Bool->List (Bool × Nat)
 | 0,_=>[]
 | n+1,listed=>match (Region.ready .any ops listed).find? fun i=>match ops[i]? with | some o=>Nw V o | none=>false with
   | some i=>(true,i)::xW V ops n (listed.setIfInBounds i true)
   | none=>match Region.ready .any ops listed with
     | i::_=>(false,i)::xW V ops n (listed.setIfInBounds i true)
     | []=>[]
def preB (V:gM) (mu:List Nat) (e0:ES):List Oper->T AV->List Nat->List Nat
 | [],_,B=>B
 | o::r,ρ,B=>preB V mu e0 r (ya ρ o.dst (cond (Nw V o) ((Jj V (iK V.C (mC mu o) o.op (eN ρ) (bC e0))).getD .any) .any)) (cond (nI o.op) (o.op.operands.toList.flatMap (fun x=>cM ((eN ρ).ev V.C x))++B) B)
def Kt (P:Program) (ty:TypeId) (p:AV) (U:St):Option AV:=match td P ty p U with
 | .val v=>some v
 | @aD.cond q d (.val v)=>cond (@decide q d) (some v) none
 | _=>none
def Ak (P:Program) (ρ:Env) (U:St):List ResultVar->Option (List AV)
 | []=>some []
 | .tmp t::rs=>(Ak P ρ U rs).map fun vs=>ρ.get t::vs
 | .cell t ty::rs=>match Kt P ty (ρ.get t) U with
   | some v=>(Ak P ρ U rs).map fun vs=>v::vs
   | none=>none
abbrev sO:=Nat->List Nat->Nat->Ro->Code->T AV->ES->KC->Bool
def Qs (P:Program) (fn:Func) (k:KR):KC:=fun ex ρ e=>match ex with
 | .normal | .ret=>match Ak P (eN ρ) (bC e) fn.results.toList with
   | some vs=>k (.ret (ug vs)) e
   | none=>false
 | .panic x=>k (.panic x) e
 | .exit _=>false
def G4 (ft:TypeId) (a:Nat) (k:KR):KR
 | .ret v,e=>match (bC e).box a,(bC e).box (a+1),(bC e).box (a+2) with
   | some [_],some [_],some [_]=>v.scalar && k (.ret (.aF [v,.int .i64 0,.bool true])) (((e.set a (.box [v])).set (a+1) (.box [.int .i64 0])).set (a+2) (.box [.bool true]))
   | _,_,_=>false
 | .panic x,e=>match x,(bC e).box a,(bC e).box (a+1),(bC e).box (a+2) with
   | .iface t (.agg [.int .i64 at_]),some [_],some [_],some [_]=>Nat.beq t ft && k (.ret (.aF [.aV,.int .i64 at_,.bool false])) ((((e.new (.box [.int .i64 at_])).set a (.box [.aV])).set (a+1) (.box [.int .i64 at_])).set (a+2) (.box [.bool false]))
   | _,_,_,_=>false
def Em (V:gM) (ev:sO):rk:=fun f args e k =>
 match V.sm f args with
 | some x=>k (.ret x) e
 | none=>match V.T4 f args e with
   | some (x,e')=>k (.ret x) e'
   | none=>match V.C.P.funcs[f]? with
     | some fn=>match fn.body with
       | some c=>Nat.ble args.length fn.ntmps && ev fn.ntmps (V.mu f) f .fn c (T.IY args 0 .e) e (Qs V.C.P fn k)
       | none=>false
     | none=>false
def ZG (e:ES):ES:=((e.new (.box [.aV])).new (.box [.int .i64 0])).new (.box [.bool false])
def rq (V:gM) (ev:sO):rk:=fun f args e k =>
 cond (V.tr f) (match args with
  | [_,.func (.func g) first cap]=>dU V.C.P g && Em V ev g (first++cap) (ZG e) (G4 V.ft e.n k)
  | _=>false) (Em V ev f args e k)
def endRound (o:Nat) (k:KR):KC:=fun ex _ e=>match (bC e).loop o with
 | some L=>match ex with
   | .normal=>k (.ret (.bool true)) (e.set o (.loop { L with state:=.ready,fe:=none }))
   | .ret=>k (.ret (.bool false)) (e.set o (.loop { L with state:=.done,fe:=some .ret }))
   | .exit id=>k (.ret (.bool false)) (e.set o (.loop { L with state:=.done,fe:=some (.exit id) }))
   | .panic _=>false
 | none=>false
def isReady:LoopState->Bool
 | .ready=>true
 | _=>false
def MK:LoopState->Bool
 | .busy=>true
 | _=>false
def qm (f:Nat->AV):Nat->T AV->T AV
 | 0,t=>t
 | n+1,t=>qm f n (t.set n (some (f n)))
def ve (V:gM) (ev:sO):rk:=fun o args e k =>
 match (bC e).loop o with
 | some L=>Nat.beq args.length L.params.size && L.params.toList.all (fun t=>Nat.blt t L.nt) &&
   ev L.nt (V.mu L.tag) L.tag (.round o) L.assign (qm (vY L.ρ L.params.toList args) L.nt .e) e (fun ex ρ e=>match ex with
    | .normal=>match (bC e).loop o with
      | some L'=>isReady L'.state && ev L.nt (V.mu L.tag) L.tag (.round o) L.body ρ (e.set o (.loop { L' with state:=.busy })) (endRound o k)
      | none=>false
    | _=>false)
 | none=>false
def Fi (o:Nat) (ρ:T AV) (k:KC):KR
 | .ret _,e=>match (bC e).loop o with
   | some L=>!MK L.state && (match L.fe with
     | none=>k .normal ρ (e.del o)
     | some .ret=>k .ret ρ (e.del o)
     | some (.exit id)=>k (.exit id) ρ (e.del o)
     | _=>false)
   | none=>false
 | .panic x,e=>k (.panic x) .e e
def Q6 (V:gM) (ops:Array Oper) (B:List Nat) (I:mw) (ρ:T AV) (e:ES) (k:T AV->ES->Bool):Bool:=match (eN ρ).get I.m with
 | .mp id=>(match (bC e).mp id with | some ([],[])=>true | _=>false) && (B.all (fun b=>!Nat.beq b id) && k ρ (e.set id (.mp (oq I.kk (mq V.C ops (eN ρ) I) ([],[])).1 (oq I.kk (mq V.C ops (eN ρ) I) ([],[])).2)))
 | _=>false
def mH (V:gM):Nat->sO
 | 0=>fun _ _ _ _ _ _ _ _=>false
 | n+1=>fun nt mu tag ro c ρ e k =>
   match c with
   | .skip=>k .normal ρ e
   | .exit id=>k (.exit id) ρ e
   | .ret=>k .ret ρ e
   | .seq a b=>mH V n nt mu tag ro a ρ e fun ex ρ e=>match ex with
     | .normal=>mH V n nt mu tag ro b ρ e k
     | ex=>k ex ρ e
   | .cond x a b=>match (eN ρ).ev V.C x with
     | .bool true=>mH V n nt mu tag ro a ρ e k
     | .bool false=>mH V n nt mu tag ro b ρ e k
     | _=>false
   | .block id a=>mH V n nt mu tag ro a ρ e fun ex ρ e=>match ex with
     | .exit zt=>cond (Nat.beq zt id) (k .normal ρ e) (k (.exit zt) ρ e)
     | ex=>k ex ρ e
   | .loop a=>mH V n nt mu tag ro a ρ e fun ex ρ e=>match ex with
     | .normal=>mH V n nt mu tag ro (.loop a) ρ e k
     | ex=>k ex ρ e
   | .region _ ops false=>jY nt ops && AL V (rq V (mH V n)) (ve V (mH V n)) mu ops ops.toList ρ e (fun ρ e=>k .normal ρ e) (fun x e=>k (.panic x) .e e)
   | .region id ops true=>match V.ins tag id with
     | none=>jY nt ops && (gH ops (xW V ops ops.size (Array.replicate ops.size false)) (Array.replicate ops.size false) && ((xW V ops ops.size (Array.replicate ops.size false)).length == ops.size)) &&
     oe V (rq V (mH V n)) (ve V (mH V n)) mu ops (preB V mu e ops.toList ρ []) e (xW V ops ops.size (Array.replicate ops.size false)) ρ e (fun ρ e=>k .normal ρ e) (fun x e=>k (.panic x) .e e)
     | some (rows,cK,I,post)=>jY nt ops && (Ac V.C.P ops rows cK I post && oe V (rq V (mH V n)) (ve V (mH V n)) mu ops (preB V mu e ops.toList ρ []) e cK ρ e (fun dx e'=>Q6 V ops (preB V mu e ops.toList ρ []) I dx e' (fun dx e'=>oe V (rq V (mH V n)) (ve V (mH V n)) mu ops (preB V mu e ops.toList ρ []) e post dx e' (fun ρ e=>k .normal ρ e) (fun x e=>k (.panic x) .e e))) (fun x e=>k (.panic x) .e e))
   | .rangeFunc f ps assign body=>match ro,(eN ρ).ev V.C f with
     | .fn,.func (.func jl) first cap=>dU V.C.P jl && rq V (mH V n) jl (first++[.pX e.n]++cap) (e.new (.loop ⟨(eN ρ).get,nt,ps,assign,body,.ready,none,tag⟩)) (Fi e.n ρ k)
     | _,_=>false
   | _=>false
def kR (k:KR):cA->St->Prop:=fun r U=>∃ e,U=bC e/\k r e=true
def kA (k:AV->ES->Bool):AV->St->Prop:=fun v U=>∃ e,U=bC e/\k v e=true
def kE (k:T AV->ES->Bool):Env->St->Prop:=fun ρ U=>∃ t e,ρ=eN t/\U=bC e/\k t e=true
def kC (k:KC):Ex->Env->St->Prop
 | .panic x,_,U=>∃ e,U=bC e/\k (.panic x) .e e=true
 | ex,ρ,U=>∃ t e,ρ=eN t/\U=bC e/\k ex t e=true
def G5 (ft:TypeId) (a b c:Nat) (R:cA->St->Prop):cA->St->Prop
 | .ret v,U=>v.scalar=true/\(∃ x,U.box a=some [x])/\(∃ x,U.box b=some [x])/\(∃ x,U.box c=some [x])/\R (.ret (.aF [v,.int .i64 0,.bool true])) (((U.bW a [v]).bW b [.int .i64 0]).bW c [.bool true])
 | .panic x,U=>∃ at_,x=.iface ft (.agg [.int .i64 at_])/\(∃ x,U.box a=some [x])/\(∃ x,U.box b=some [x])/\(∃ x,U.box c=some [x]) /\
    ∀ q,U.cY q->R (.ret (.aF [.aV,.int .i64 at_,.bool false])) ((((U.new q (.box [.int .i64 at_])).bW a [.aV]).bW b [.int .i64 at_]).bW c [.bool false])
def Ib (C:cq) (ft:TypeId) (f:Nat):Prop:=∀ r g first cap U R,dU C.P g=true ->
 (∀ a b c,U.cY a->(U.new a (.box [.aV])).cY b->((U.new a (.box [.aV])).new b (.box [.int .i64 0])).cY c ->
   ae C g (first++cap) (((U.new a (.box [.aV])).new b (.box [.int .i64 0])).new c (.box [.bool false])) (G5 ft a b c R))->ae C f [r,.func (.func g) first cap] U R
structure pY (V:gM):Prop where
 sm:∀ f args x,V.sm f args=some x->Pure V.C f args x
 T4:∀ f args e x e',V.T4 f args e=some (x,e')->∀ R,R (.ret x) (bC e')->ae V.C f args (bC e) R
 tr:∀ f,V.tr f=true->Ib V.C V.ft f
 mixed:V.C.P.follows .mixedOrders=true
def wX (V:gM) (cf:rk):Prop:=∀ f args e k,cf f args e k=true->ae V.C f args (bC e) (kR k)
def yA (V:gM) (cy:rk):Prop:=∀ o args e k,cy o args e k=true->kV V.C o args (bC e) (kR k)
def um (V:gM) (ev:sO):Prop:=∀ nt mu tag ro c ρ e k,ev nt mu tag ro c ρ e k=true->bo V.C nt ro c (kC k) (eN ρ) (bC e)
theorem rP {e:ES} {b:Nat} (h:(bC e).cY b):b=e.n:=h.2 _ rfl
theorem LI (e:ES) (d:Option Nat):(e.qO d).n=e.n:=by cases d <;> rfl
section
variable {V:gM} {cf cy:rk}
theorem Am (hf:wX V cf) (hy:yA V cy) {e:ES} {k kp:AV->ES->Bool}:∀ (r:aD),yS cf cy e r k kp=true->r.wp V.C (bC e) (kA k) (kA kp)
 | .val v,h=>⟨e,rfl,h⟩
 | .gx v b x,h=>⟨e.set b x,(lN e b x).symm,h⟩
 | .new kd del x,h=>fun b hb=>by
   rw [<- PO] at hb ⊢
   have:=rP hb
   rw [LI] at this
   subst this
   exact ⟨(e.qO del).new x,by rw [ql,LI],h⟩
 | .ki b l,h=>fun p hp=>by
   simp only [yS,eC] at h
   exact ⟨e.set b p.2,(lN e b p.2).symm,h p hp⟩
 | .enter f args,h=>(hf f args e _ h).mono fun r U hr=>by cases r <;> exact hr
 | .yield o args,h=>(hy o args e _ h).mono fun r U hr=>by cases r <;> exact hr
 | .panic v,h=>⟨e,rfl,h⟩
 | @aD.cond p d r,h=>by
   simp only [yS,bL] at h
   exact ⟨@of_decide_eq_true p d h.1,Am hf hy r h.2⟩
 | .bad,h=>by cases h
theorem UG {ops:Array Oper} {B:List Nat} {I:mw} {k:T AV->ES->Bool} (ρ:T AV) (e:ES) (h:Q6 V ops B I ρ e k=true):J5 V.C ops B I (kE k) (eN ρ) (bC e):=by
 unfold Q6 at h
 split at h
 . rename_i id hid
   simp only [bL,eC,Bool.not_eq_true'] at h
   obtain ⟨h1,h2,h3⟩:=h
   split at h1
   . rename_i FN
     refine ⟨id,hid,FN,fun hm=>?_,ρ,_,rfl,(lN e id _).symm,h3⟩
     have:=h2 id hm
     simp at this
   . cases h1
 . cases h
theorem zU (hf:wX V cf) (hy:yA V cy) {mu:List Nat} {ops:Array Oper} {k:T AV->ES->Bool} {kp:AV->ES->Bool}:∀ (l:List Oper) (ρ:T AV) (e:ES),AL V cf cy mu ops l ρ e k kp=true ->
 nW V.C mu ops l (eN ρ) (bC e) (kE k) (kA kp)
 | [],ρ,e,h=>⟨ρ,e,rfl,rfl,h⟩
 | o::rest,ρ,e,h=>by
   simp only [AL] at h
   simp only [nW]
   split at h
   . rename_i hg
     rw [hg]
     refine ⟨fun _=>?_,fun h=>(by cases h)⟩
     refine aD.wp_mono ?_ _ (Am hf hy _ h)
     rintro v U ⟨e',rfl,hk⟩
     have:=zU hf hy rest _ e' hk
     rw [oX] at this
     exact this
   . rename_i hg
     rw [hg]
     refine ⟨fun h=>(by cases h),fun _=>?_⟩
     have:=zU hf hy rest _ e h
     rw [oX] at this
     exact this
   . cases h
theorem Qb (hV:pY V):∀ (r:aD) (v:AV),Jj V r=some v->r.yv V.C v
 | .val u,v,h=>by simp only [Jj,gK] at h; exact h
 | @aD.cond p d r,v,h=>by
   simp only [Jj] at h
   cases hd:@decide p d with
   | false=>rw [hd] at h; cases h
   | true=>rw [hd] at h; exact ⟨@of_decide_eq_true p d hd,Qb hV r v h⟩
 | .enter f args,v,h=>hV.sm f args v h
 | .gx _ _ _,v,h=>by cases h
 | .new _ _ _,v,h=>by cases h
 | .ki _ _,v,h=>by cases h
 | .yield _ _,v,h=>by cases h
 | .panic _,v,h=>by cases h
 | .bad,v,h=>by cases h
theorem RG {B:List Nat} {e0 e:ES} (h:KN B e0 e=true):cg B (bC e0) (bC e):=fun b hb=>by
 unfold KN at h
 rw [eC] at h
 exact LM (h b hb)
theorem JV {C:cq} {B:List Nat} {ρ:Env} {op:Op} (h:Ck C B ρ op=true):∀ x ∈ op.operands.toList,∀ b ∈ cM (ρ.ev C x),b ∈ B:=fun x hx b hb=>by
 unfold Ck at h
 rw [eC] at h
 have:=h x hx
 rw [eC] at this
 have:=this b hb
 rw [List.any_eq_true] at this
 obtain ⟨c,hc,he⟩:=this
 rw [<- ey he]; exact hc
theorem mW (hV:pY V) (hf:wX V cf) (hy:yA V cy) {mu:List Nat} {ops:Array Oper} {B:List Nat} {e0:ES} {k:T AV->ES->Bool} {kp:AV->ES->Bool}:∀ (l:List (Bool × Nat)) (ρ:T AV) (e:ES),oe V cf cy mu ops B e0 l ρ e k kp=true ->
 kx V.C mu ops B (bC e0) (kE k) (kA kp) l (eN ρ) (bC e)
 | [],ρ,e,h=>⟨ρ,e,rfl,rfl,h⟩
 | (true,i)::r,ρ,e,h=>by
   simp only [oe] at h
   split at h
   . cases h
   . rename_i o ho
     split at h
     . rename_i hg
       simp only [bL,iL,Bool.not_eq_true'] at h
       obtain ⟨⟨h1,h2⟩,h3⟩:=h
       split at h3
       . rename_i v hv
         refine ⟨o,v,ho,.inl ⟨hg,h1,fun FX=>?_,Qb hV _ _ hv⟩,?_⟩
         . rcases h2 with h2 | h2
           . rw [FX] at h2; cases h2
           . exact JV h2
         . have:=mW hV hf hy r _ e h3
           rw [oX] at this
           exact this
       . cases h3
     . rename_i hg
       refine ⟨o,.aF [],ho,.inr ⟨hg,rfl⟩,?_⟩
       have:=mW hV hf hy r _ e h
       rw [oX] at this
       exact this
     . cases h
 | (false,i)::r,ρ,e,h=>by
   simp only [oe] at h
   simp only [kx,jZ]
   split at h
   . cases h
   . rename_i o ho
     try rw [ho]
     try dsimp only
     split at h
     . rename_i hg
       rw [hg]
       refine ⟨fun _=>?_,fun h=>(by cases h)⟩
       refine aD.wp_mono ?_ _ (Am hf hy _ h)
       rintro v U ⟨e',rfl,hk⟩
       simp only [bL] at hk
       refine ⟨?_,?_⟩
       . rw [iL] at hk
         rcases hk.1 with h | h
         . exact .inr (RG h)
         . exact .inl (UP h)
       have:=mW hV hf hy r _ e' hk.2
       rw [oX] at this
       exact this
     . rename_i hg
       rw [hg]
       refine ⟨fun h=>(by cases h),fun _=>?_⟩
       have:=mW hV hf hy r _ e h
       rw [oX] at this
       exact this
     . cases h
theorem tm {C:cq} {mu:List Nat} {ops:Array Oper} {K K':Env->St->Prop} {Kp wE:AV->St->Prop} (hk:∀ ρ U,K ρ U->K' ρ U) (hp:∀ v U,Kp v U->wE v U):∀ (l:List Oper) {ρ:Env} {U:St},nW C mu ops l ρ U K Kp->nW C mu ops l ρ U K' wE
 | [],_,_,h=>hk _ _ h
 | o::rest,ρ,U,h=>by
   simp only [nW] at h ⊢
   have wpp:∀ (r:aD) {U:St} {X:AV->St->Prop},r.wp C U X Kp->r.wp C U X wE:=fun r=>by
    induction r with
    | val _=>exact fun h=>h
    | gx _ _ _=>exact fun h=>h
    | new _ _ _=>exact fun h=>h
    | ki _ _=>exact fun h=>h
    | enter f args=>exact fun h=>h.mono fun r U hr=>by cases r <;> first | exact hr | exact hp _ _ hr
    | yield o args=>exact fun h=>h.mono fun r U hr=>by cases r <;> first | exact hr | exact hp _ _ hr
    | panic v=>exact fun h=>hp _ _ h
    | cond p r ih=>exact fun h=>⟨h.1,ih h.2⟩
    | bad=>exact fun h=>h
   cases hg:gq ops ρ o.guard <;> rw [hg] at h <;> simp only [av] at h ⊢
   exact ⟨fun e=>aD.wp_mono (fun v U hv=>tm hk hp rest hv) _ (wpp _ (h.1 e)),fun e=>tm hk hp rest (h.2 e)⟩
theorem Rm {P:Program} {ty:TypeId} {p v:AV} {U:St} (h:Kt P ty p U=some v) {k:AV->Prop} (hk:k v):yN P ty p U k:=by
 unfold Kt at h
 unfold yN
 split at h
 . rename_i u hu
   cases h
   first | exact hk | (rw [hu]; exact hk)
 . rename_i q d u hu
   cases hd:@decide q d with
   | false=>rw [hd] at h; cases h
   | true =>
     rw [hd] at h; cases h
     first | exact ⟨@of_decide_eq_true q d hd,hk⟩ | (rw [hu]; exact ⟨@of_decide_eq_true q d hd,hk⟩)
 . cases h
theorem yR {P:Program} {ρ:Env} {U:St}:∀ (rs:List ResultVar) (vs:List AV) (k:List AV->Prop),Ak P ρ U rs=some vs->k vs->ue P ρ U rs k
 | [],vs,k,h,hk=>by simp only [Ak,gK] at h; subst h; exact hk
 | .tmp t::rs,vs,k,h,hk=>by
   simp only [Ak,nX] at h
   obtain ⟨us,hu,rfl⟩:=h
   exact yR rs us _ hu hk
 | .cell t ty::rs,vs,k,h,hk=>by
   simp only [Ak] at h
   split at h
   . rename_i v hv
     simp only [nX] at h
     obtain ⟨us,hu,rfl⟩:=h
     exact Rm hv (yR rs us _ hu hk)
   . cases h
theorem Fa (hV:pY V) {ev:sO} (he:um V ev):wX V (Em V ev):=fun f args e k h=>by
 simp only [Em] at h
 split at h
 . rename_i x hx
   exact hV.sm f args x hx _ _ ⟨e,rfl,h⟩
 . split at h
   . rename_i x e' hx
     exact hV.T4 f args e x e' hx _ ⟨e',rfl,h⟩
   . split at h
     . rename_i fn hfn
       split at h
       . rename_i c hc
         simp only [bL] at h
         refine ae.IZ hfn hc (Nat.le_of_ble_eq_true h.1) ?_
         have:=he _ _ _ _ _ _ _ _ h.2
         rw [JA] at this
         refine this.mono ?_
         intro ex ρ U hc
         cases ex with
         | normal =>
           obtain ⟨t,e',rfl,rfl,hk⟩:=hc
           simp only [Qs] at hk
           split at hk
           . rename_i vs xO
             exact yR _ vs _ xO ⟨_,_,mR.refl _ _,e',rfl,hk⟩
           . cases hk
         | ret =>
           obtain ⟨t,e',rfl,rfl,hk⟩:=hc
           simp only [Qs] at hk
           split at hk
           . rename_i vs xO
             exact yR _ vs _ xO ⟨_,_,mR.refl _ _,e',rfl,hk⟩
           . cases hk
         | panic x =>
           obtain ⟨e',rfl,hk⟩:=hc
           exact ⟨e',rfl,hk⟩
         | exit id =>
           obtain ⟨t,e',rfl,rfl,hk⟩:=hc
           cases hk
       . cases h
     . cases h
theorem mv (e:ES) (b:Nat) (l:List AV):(bC e).bW b l=bC (e.set b (.box l)):=(lN e b _).symm
theorem Fb (hV:pY V) {ev:sO} (he:um V ev):wX V (rq V ev):=fun f args e k h=>by
 simp only [rq] at h
 cases My:V.tr f with
 | false=>rw [My] at h; exact Fa hV he f args e k h
 | true =>
   rw [My] at h
   simp only [cond_true] at h
   split at h
   . rename_i r g first cap
     rw [bL] at h
     obtain ⟨sc,h⟩:=h
     refine hV.tr f My r g first cap _ _ sc fun a b c ha hb hc=>?_
     have ea:=rP ha
     subst ea
     rw [<- ql] at hb hc ⊢
     have eb:=rP hb
     subst eb
     rw [<- ql] at hc ⊢
     have ec:=rP hc
     subst ec
     rw [<- ql]
     refine (Fa hV he g _ _ _ h).mono ?_
     rintro r U ⟨e',rfl,hk⟩
     cases r with
     | ret v =>
       simp only [G4] at hk
       split at hk
       . rename_i x y z h1 h2 h3
         rw [bL] at hk
         refine ⟨hk.1,⟨x,h1⟩,⟨y,h2⟩,⟨z,h3⟩,?_⟩
         rw [mv,mv,mv]
         exact ⟨_,rfl,hk.2⟩
       . cases hk
     | panic x =>
       simp only [G4] at hk
       split at hk
       . rename_i t at_ x y z h1 h2 h3
         simp only [bL] at hk
         have ht:=ey hk.1
         subst ht
         refine ⟨at_,rfl,⟨x,h1⟩,⟨y,h2⟩,⟨z,h3⟩,fun q hq=>?_⟩
         have eq:=rP hq
         subst eq
         rw [<- ql,mv,mv,mv]
         exact ⟨_,rfl,hk.2⟩
       . cases hk
   . cases h
theorem sI (f:Nat->AV):∀ (n:Nat) (t:T AV) (i:Nat),(qm f n t).get i=if i < n then some (f i) else t.get i
 | 0,t,i=>by simp [qm]
 | n+1,t,i=>by
   simp only [qm]
   rw [sI f n,T.rQ]
   by_cases h:i < n
   . rw [if_pos h,if_pos (by omega)]
   . rw [if_neg h]
     by_cases e:i=n
     . subst e; simp
     . rw [if_neg e,if_neg (by omega)]
end
end Go.Rip
namespace Go.Rip
open Go.RowKit
theorem bo.env {C:cq} {nt:Nat} {ro:Ro} {c:Code} {Q:Ex->Env->St->Prop} {ρ dx:Env} {U:St} (h1:∀ t,t < nt->dx.get t=ρ.get t) (h2:∀ t,nt <= t->dx.get t=.aF []) (h:bo C nt ro c Q dx U):bo C nt ro c Q ρ U:=by
 intro g w a fr k1 k2 k3 k4 k5
 refine h g w a fr k1 k2 (fun t=>?_) k4 k5
 by_cases ht:t < nt
 . rw [h1 t ht]; exact k3 t
 . rw [h2 t (by omega)]
   have:a.tmps.getD t undef=undef:=by
    rw [Array.getD_eq_getD_getElem?,wc (by omega)]; rfl
   rw [this]; exact tq
section
variable {V:gM}
theorem Qa (hV:pY V) {ev:sO} (he:um V ev):yA V (ve V ev):=fun o args e k h=>by
 simp only [ve] at h
 split at h
 . rename_i L hL
   simp only [bL] at h
   obtain ⟨⟨h1,h2⟩,h3⟩:=h
   refine kV.Gt hL (ey h1) (fun t ht=>?_) ?_
   . rw [eC] at h2
     have:=h2 t ht
     simpa [Nat.blt_eq] using this
   . have h4:=he _ _ _ _ _ _ _ _ h3
     refine bo.env (dx:=eN (qm (vY L.ρ L.params.toList args) L.nt .e)) (fun t ht=>?_) (fun t ht=>?_) ?_
     . simp only [eN]; rw [sI,if_pos ht]; rfl
     . simp only [eN]; rw [sI,if_neg (by omega)]; rfl
     . refine h4.mono ?_
       intro ex ρ U hc
       cases ex with
       | normal =>
         obtain ⟨t,e',rfl,rfl,hk⟩:=hc
         dsimp only at hk
         split at hk
         . rename_i L' AW
           simp only [bL] at hk
           refine ⟨L',AW,?_,?_⟩
           . have:=hk.1
             cases hs:L'.state <;> rw [hs] at this <;> first
              | rfl
              | (simp [isReady] at this)
           . have h5:=he _ _ _ _ _ _ _ _ hk.2
             rw [lN] at h5
             refine h5.mono ?_
             intro ex ρ U zi
             cases ex with
             | normal =>
               obtain ⟨t',e2,rfl,rfl,fD⟩:=zi
               simp only [endRound] at fD
               split at fD
               . rename_i L2 Mc; exact ⟨L2,Mc,_,(lN _ _ _).symm,fD⟩
               . cases fD
             | ret =>
               obtain ⟨t',e2,rfl,rfl,fD⟩:=zi
               simp only [endRound] at fD
               split at fD
               . rename_i L2 Mc; exact ⟨L2,Mc,_,(lN _ _ _).symm,fD⟩
               . cases fD
             | exit id =>
               obtain ⟨t',e2,rfl,rfl,fD⟩:=zi
               simp only [endRound] at fD
               split at fD
               . rename_i L2 Mc; exact ⟨L2,Mc,_,(lN _ _ _).symm,fD⟩
               . cases fD
             | panic x =>
               obtain ⟨e2,rfl,fD⟩:=zi
               simp only [endRound] at fD
               split at fD <;> cases fD
         . cases hk
       | exit id=>obtain ⟨t,e',rfl,rfl,hk⟩:=hc; cases hk
       | ret=>obtain ⟨t,e',rfl,rfl,hk⟩:=hc; cases hk
       | panic x=>obtain ⟨e',rfl,hk⟩:=hc; cases hk
 . cases h
theorem Qy (hV:pY V) (n:Nat) (ihs:∀ m,m < n->um V (mH V m)):um V (mH V n):=by
 cases n with
 | zero=>intro nt mu tag ro c ρ e k h; cases h
 | succ n =>
   intro nt mu tag ro c ρ e k h
   have ih:=ihs n (Nat.lt_succ_self n)
   have hf:=Fb hV ih
   have hy:=Qa hV ih
   by_cases hl:∃ a,c=.loop a
   . obtain ⟨a,rfl⟩:=hl
     refine bo.loop (fun j ρ U=>j <= n+1/\∃ t e,ρ=eN t/\U=bC e/\mH V j nt mu tag ro (.loop a) t e k=true) (n:=n+1) ⟨dk _,ρ,e,rfl,rfl,h⟩ ?_
     rintro j dx ad ⟨hj,t,e',rfl,rfl,hk⟩
     cases j with
     | zero=>cases hk
     | succ j =>
       simp only [mH] at hk
       refine (ihs j (by omega) _ _ _ _ _ _ _ _ hk).mono ?_
       intro ex pT aZ hc
       cases ex with
       | normal =>
         obtain ⟨t2,e2,rfl,rfl,fD⟩:=hc
         exact ⟨j,Nat.lt_succ_self j,by omega,t2,e2,rfl,rfl,fD⟩
       | exit id=>exact hc
       | ret=>exact hc
       | panic x=>exact hc
   simp only [mH] at h
   split at h
   . exact bo.skip ⟨ρ,e,rfl,rfl,h⟩
   . exact bo.exit ⟨ρ,e,rfl,rfl,h⟩
   . exact bo.ret ⟨ρ,e,rfl,rfl,h⟩
   . rename_i a b
     refine bo.seq ((ih _ _ _ _ _ _ _ _ h).mono ?_)
     intro ex dx ad hc
     cases ex with
     | normal =>
       obtain ⟨t,e',rfl,rfl,hk⟩:=hc
       exact ih _ _ _ _ _ _ _ _ hk
     | exit id=>exact hc
     | ret=>exact hc
     | panic x=>exact hc
   . rename_i x a b
     split at h
     . rename_i hc; exact bo.aa3 hc (ih _ _ _ _ _ _ _ _ h)
     . rename_i hc; exact bo.aa2 hc (ih _ _ _ _ _ _ _ _ h)
     . cases h
   . rename_i id a
     refine bo.block ((ih _ _ _ _ _ _ _ _ h).mono ?_)
     intro ex dx ad hc
     cases ex with
     | normal=>exact hc
     | exit zt =>
       obtain ⟨t,e',rfl,rfl,hk⟩:=hc
       simp only [xh]
       dsimp only at hk
       split
       . rename_i hid
         subst hid
         rw [Nat.beq_refl,cond_true] at hk
         exact ⟨t,e',rfl,rfl,hk⟩
       . rename_i hid
         rw [xX hid,cond_false] at hk
         exact ⟨t,e',rfl,rfl,hk⟩
     | ret=>exact hc
     | panic x=>exact hc
   . rename_i a
     exact (hl ⟨a,rfl⟩).elim
   . rename_i id ops
     simp only [bL] at h
     refine bo.region mu h.1 (tm ?_ ?_ _ (zU hf hy _ _ _ h.2))
     . rintro dx ad ⟨t,e',rfl,rfl,hk⟩
       exact ⟨t,e',rfl,rfl,hk⟩
     . rintro v ad ⟨e',rfl,hk⟩ dx
       exact ⟨e',rfl,hk⟩
   . rename_i id ops
     split at h
     . simp only [bL] at h
       refine bo.rG mu _ _ hV.mixed h.1.1 (by rw [bL]; exact h.1.2) (iC ?_ ?_ _ (mW hV hf hy _ _ _ h.2))
       . rintro dx ad ⟨t,e',rfl,rfl,hk⟩
         exact ⟨t,e',rfl,rfl,hk⟩
       . rintro v ad ⟨e',rfl,hk⟩ dx
         exact ⟨e',rfl,hk⟩
     . rename_i rows cK I post _
       simp only [bL] at h
       have SP:∀ v U,kA (fun x e=>k (.panic x) .e e) v U->wF (kC k) v U:=by
        rintro v ad ⟨e',rfl,hk⟩ dx
        exact ⟨e',rfl,hk⟩
       refine bo.Ny (B:=preB V mu e ops.toList ρ []) (mu:=mu) cK I post hV.mixed h.1 (HS h.2.1) (iC ?_ SP _ (mW hV hf hy _ _ _ h.2.2))
       rintro dx ad ⟨t,e',rfl,rfl,hk⟩
       obtain ⟨zt,q1,q2,q3,t2,e2,q4,q5,q6⟩:=UG t e' hk
       refine ⟨zt,q1,q2,q3,?_⟩
       have key:=iC (K':=KQ (kC k)) (by
        rintro pT aZ ⟨t3,e3,rfl,rfl,hk⟩
        exact ⟨t3,e3,rfl,rfl,hk⟩) SP _ (mW hV hf hy _ _ _ q6)
       rw [<- q4,<- q5] at key
       exact key
   . rename_i f ps assign body
     split at h
     . rename_i jl first cap hfn
       simp only [bL] at h
       refine bo.rangeFunc tag hfn h.1 fun o ho=>?_
       have:=rP ho
       subst this
       rw [<- ql]
       refine (hf _ _ _ _ h.2).mono ?_
       rintro r U ⟨e',rfl,hk⟩
       cases r with
       | ret v =>
         simp only [Fi] at hk
         split at hk
         . rename_i L hL
           simp only [bL,Bool.not_eq_true'] at hk
           refine ⟨L,hL,fun hb=>?_,?_⟩
           . rw [hb] at hk; simp [MK] at hk
           . have fD:=hk.2
             rw [<- Ar]
             split at fD
             . rename_i hp; try rw [hp]
               exact ⟨_,_,rfl,rfl,fD⟩
             . rename_i hp; try rw [hp]
               exact ⟨_,_,rfl,rfl,fD⟩
             . rename_i id hp; try rw [hp]
               exact ⟨_,_,rfl,rfl,fD⟩
             . cases fD
         . cases hk
       | panic x=>exact ⟨e',rfl,hk⟩
     . cases h
   . cases h
theorem Xm (hV:pY V) (n:Nat):um V (mH V n):=by
 induction n using Nat.strongRecOn with
 | _ n ih=>exact Qy hV n ih
theorem Xn {V:gM} (hV:pY V) (n f:Nat) (args:List AV) (e:ES) (k:KR) (h:rq V (mH V n) f args e k=true):ae V.C f args (bC e) (kR k):=Fb hV (Xm hV n) f args e k h
end
end Go.Rip
namespace Go.Rip
open Go.RowKit
mutual
def closed:AV->Bool
 | .box _ _ | .ms _ _ _ _ _ | .mp _ | .pX _ | .it _=>false
 | .vec _ (.own _) _=>false
 | .vec _ _ l=>bY l
 | .cn l=>bY l
 | .eZ ks vs=>bY ks && bY vs
 | .func _ a b=>bY a && bY b
 | .iface _ v=>closed v
 | .agg l=>bY l
 | .aF l=>bY l
 | _=>true
def bY:List AV->Bool
 | []=>true
 | x::xs=>closed x && bY xs
end
mutual
theorem ay.closed {g g':Gh} (hi:∀ b o x,g.bS b o=some x->g'.bS b o=some x) (hm:∀ b x,g.bI b=some x->g'.bI b=some x):∀ (x:AV) (v:Value),closed x=true->ay g x v->ay g' x v
 | .bool _,_,_,hr=>hr
 | .int _ _,_,_,hr=>hr
 | .str _,_,_,hr=>hr
 | .aV,_,_,hr=>hr
 | .aw,_,_,hr=>hr
 | .jq,_,_,hr=>hr
 | .dj,_,_,hr=>hr
 | .cJ,_,_,hr=>hr
 | .box _ _,_,hc,_=>by cases hc
 | .ms _ _ _ _ _,_,hc,_=>by cases hc
 | .mp _,_,hc,_=>by cases hc
 | .pX _,_,hc,_=>by cases hc
 | .it _,_,hc,_=>by cases hc
 | .cn l,_,hc,hr=>by
   simp only [ay] at hr ⊢
   obtain ⟨aE,off,vs,hv,h1,h2⟩:=hr
   exact ⟨aE,off,vs,hv,fun i u hu=>hi _ _ _ (h1 i u hu),az.closed hi hm l vs hc h2⟩
 | .vec n cap l,_,hc,hr=>by
   simp only [ay] at hr ⊢
   obtain ⟨aE,off,c,vs,hv,h1,h2,h3,h4,h5⟩:=hr
   cases cap with
   | own τ=>cases hc
   | full=>exact ⟨aE,off,c,vs,hv,h1,h2,h3,fun i u hu=>hi _ _ _ (h4 i u hu),az.closed hi hm l vs hc h5⟩
   | jD=>exact ⟨aE,off,c,vs,hv,h1,h2,trivial,fun i u hu=>hi _ _ _ (h4 i u hu),az.closed hi hm l vs hc h5⟩
 | .eZ ks vs,_,hc,hr=>by
   simp only [ay] at hr ⊢
   simp only [Go.Rip.closed,bL] at hc
   obtain ⟨r,es,c,l,hv,he,hp,hs,h1,h2⟩:=hr
   exact ⟨r,es,c,l,hv,hm _ _ he,hp,hs,az.closed hi hm ks _ hc.1 h1,az.closed hi hm vs _ hc.2 h2⟩
 | .func fn first captured,_,hc,hr=>by
   simp only [ay] at hr ⊢
   simp only [Go.Rip.closed,bL] at hc
   obtain ⟨fs,cs,hv,h1,h2⟩:=hr
   exact ⟨fs,cs,hv,az.closed hi hm first _ hc.1 h1,az.closed hi hm captured _ hc.2 h2⟩
 | .iface t x,_,hc,hr=>by
   simp only [ay] at hr ⊢
   obtain ⟨u,hv,h1⟩:=hr
   exact ⟨u,hv,ay.closed hi hm x _ hc h1⟩
 | .agg l,_,hc,hr=>by
   simp only [ay] at hr ⊢
   obtain ⟨vs,hv,h0,h1⟩:=hr
   exact ⟨vs,hv,h0,az.closed hi hm l _ hc h1⟩
 | .aF l,_,hc,hr=>by
   simp only [ay] at hr ⊢
   obtain ⟨vs,hv,h1⟩:=hr
   exact ⟨vs,hv,az.closed hi hm l _ hc h1⟩
 | .any,_,_,_=>by simp only [ay]
theorem az.closed {g g':Gh} (hi:∀ b o x,g.bS b o=some x->g'.bS b o=some x) (hm:∀ b x,g.bI b=some x->g'.bI b=some x):∀ (l:List AV) (vs:List Value),bY l=true->az g l vs->az g' l vs
 | [],_,_,hr=>by simpa only [az] using hr
 | x::xs,_,hc,hr=>by
   simp only [az] at hr ⊢
   simp only [bY,bL] at hc
   obtain ⟨u,us,hv,h1,h2⟩:=hr
   exact ⟨u,us,hv,ay.closed hi hm x _ hc.1 h1,az.closed hi hm xs _ hc.2 h2⟩
end
def resolve:Nat->St->AV->AV
 | 0,_,_=>.any
 | n+1,U,x=>match x with
   | .box b off=>match U.box b with
     | some l=>.cn ((l.map (resolve n U)).drop off)
     | none=>.any
   | .ms b off k _ _=>match U.box b with
     | some l=>.vec k .jD ((l.map (resolve n U)).drop off)
     | none=>.any
   | .mp m=>match U.mp m with
     | some (ks,vs)=>.eZ ks (vs.map (resolve n U))
     | none=>.any
   | .vec k .full l=>.vec k .full (l.map (resolve n U))
   | .vec k _ l=>.vec k .jD (l.map (resolve n U))
   | .cn l=>.cn (l.map (resolve n U))
   | .eZ ks vs=>.eZ ks (vs.map (resolve n U))
   | .func f a b=>.func f (a.map (resolve n U)) (b.map (resolve n U))
   | .iface t v=>.iface t (resolve n U v)
   | .agg l=>.agg (l.map (resolve n U))
   | .aF l=>.aF (l.map (resolve n U))
   | .pX _ | .it _=>.any
   | x=>x
noncomputable def Gh.all (g:Gh) (w:World):Gh :=
 { g with
  bS:=fun q o=>if g.base <= q then (match w.cell? ⟨q,o,none⟩ with | some u=>if u.oneCell'=true then some u else none | none=>none) else g.bS q o
  bI:=fun q=>if g.base <= q then (match w.heap[q]? with | some (.map es c)=>if h:(open Classical in decide (jJ es c))=true then some (es,c) else none | _=>none) else g.bI q }
theorem Ic {g:Gh} {w:World} {q o:Nat} {u:Value} (hq:g.base <= q) (hc:w.cell? ⟨q,o,none⟩=some u) (h1:u.oneCell'=true):(g.all w).bS q o=some u:=by
 show (if _ then _ else _)=_
 rw [if_pos hq,hc]; simp [h1]
theorem EU {g:Gh} {w:World} {q:Nat} {es:Array MapEntry} {c:Nat} (hq:g.base <= q) (hc:w.heap[q]?=some (.map es c)) (h1:jJ es c):(g.all w).bI q=some (es,c):=by
 show (if _ then _ else _)=_
 rw [if_pos hq,hc]; simp [h1]
theorem a8.Bl {g:Gh} {U:St} {w:World} (h:a8 g U w):Gh.Le g (g.all w):=by
 refine ⟨rfl,rfl,fun _ _ h=>h,fun b o x hx=>?_,fun b x hx=>?_,fun _ h=>h,fun b o hb=>?_,fun b hb=>?_⟩
 . by_cases hq:g.base <= b
   . exact Ic hq (h.bS _ _ _ hx).1 (h.bS _ _ _ hx).2
   . show (if _ then _ else _)=_
     rw [if_neg hq]; exact hx
 . by_cases hq:g.base <= b
   . exact EU hq (h.bI _ _ _ hx).1 (h.bI _ _ _ hx).2
   . show (if _ then _ else _)=_
     rw [if_neg hq]; exact hx
 . show (if _ then _ else _)=_
   rw [if_neg (by omega)]
 . show (if _ then _ else _)=_
   rw [if_neg (by omega)]
theorem vj {g:Gh} {U:St} {w:World} (h:a8 g U w) (q o:Nat) (u:Value) (hu:(g.all w).bS q o=some u):w.cell? ⟨q,o,none⟩=some u/\u.oneCell'=true:=by
 have hu:(if g.base <= q then (match w.cell? ⟨q,o,none⟩ with | some u=>if u.oneCell'=true then some u else none | none=>none) else g.bS q o)=some u:=hu
 split at hu
 . split at hu
   . rename_i x hx
     split at hu
     . cases hu; exact ⟨hx,by assumption⟩
     . cases hu
   . cases hu
 . exact h.bS _ _ _ hu
theorem tL {g:Gh} {U:St} {w:World} (h:a8 g U w) (q:Nat) (es:Array MapEntry) (c:Nat) (hu:(g.all w).bI q=some (es,c)):w.heap[q]?=some (.map es c)/\jJ es c:=by
 have hu:(if g.base <= q then (match w.heap[q]? with | some (.map es c)=>if h:(open Classical in decide (jJ es c))=true then some (es,c) else none | _=>none) else g.bI q)=some (es,c):=hu
 split at hu
 . split at hu
   . rename_i uy c' hx
     split at hu
     . rename_i hb
       cases hu; exact ⟨hx,by simpa using hb⟩
     . cases hu
   . cases hu
 . exact h.bI _ _ _ hu
theorem Ai {g g':Gh} {f:AV->AV}:∀ {l:List AV} {vs:List Value},(∀ x v,x ∈ l->ay g x v->ay g' (f x) v)->az g l vs->az g' (l.map f) vs
 | [],_,_,h=>by simpa only [az,lq] using h
 | x::xs,_,hf,h=>by
   simp only [az,dV] at h ⊢
   obtain ⟨u,us,hv,h1,h2⟩:=h
   exact ⟨u,us,hv,hf x u (by simp) h1,Ai (fun y v hy=>hf y v (by simp [hy])) h2⟩
theorem zG {g:Gh} {U:St} {w:World} (h:a8 g U w):∀ (n:Nat) (x:AV) (v:Value),ay g x v->ay (g.all w) (resolve n U x) v:=by
 intro n
 induction n with
 | zero=>intro x v _; simp only [resolve,ay]
 | succ n ih =>
   intro x v hr
   have hl:=h.Bl
   have sg:∀ {l:List AV} {vs:List Value},az g l vs->az (g.all w) (l.map (resolve n U)) vs:=fun h=>Ai (fun y v _ hy=>ih y v hy) h
   have hi:∀ {aE off:Nat} {vs:List Value},kg g aE off vs->kg (g.all w) aE off vs:=fun h=>h.mono hl
   have box:∀ {b off:Nat} {l:List AV} {p:Place},U.box b=some l->g.place b=some p->∃ vs,kg (g.all w) p.aE off vs/\az (g.all w) ((l.map (resolve n U)).drop off) vs:=fun {b off l p} hb hp=>by
    obtain ⟨x',cur,vs,rest,k1,k2,k3,k4,k5,k6,k7,k8⟩:=h.box b l hb
    have k1:g.place b=some x':=k1
    rw [hp] at k1; cases k1
    refine ⟨vs.drop off,fun i u hu=>?_,(sg k6).drop off⟩
    rw [List.getElem?_drop] at hu
    have aO:off+i < vs.length:=by
     rcases je (off+i) vs.length with h | h
     . exact h
     . simp [wb h] at hu
    have hc:cur[off+i]?=some u:=by rw [<- jS,k5,ud aO]; exact hu
    exact Ic k2 (by rw [cell_of_row _ _ _ cur p.e (0,0) k3]; exact hc) (k7 u (fj (by rw [jS]; exact hc)))
   cases x with
   | box b off =>
     simp only [resolve]
     cases hb:U.box b with
     | none=>simp only [ay]
     | some l =>
       simp only [ay] at hr ⊢
       obtain ⟨p,hp,rfl⟩:=hr
       obtain ⟨vs,h1,h2⟩:=box (off:=off) hb hp
       exact ⟨p.aE,off,vs,rfl,h1,h2⟩
   | ms b off k ir e =>
     simp only [resolve]
     cases hb:U.box b with
     | none=>simp only [ay]
     | some l =>
       simp only [ay] at hr ⊢
       obtain ⟨p,c,hp,rfl,q1,q2,_⟩:=hr
       obtain ⟨vs,h1,h2⟩:=box (off:=off) hb hp
       exact ⟨p.aE,off,c,vs,rfl,q1,q2,trivial,h1,h2⟩
   | mp m =>
     simp only [resolve]
     cases hm:U.mp m with
     | none=>simp only [ay]
     | some kv =>
       obtain ⟨ks,vs⟩:=kv
       simp only [ay] at hr ⊢
       obtain ⟨r,hr,rfl⟩:=hr
       obtain ⟨r',es,clock,q1,q2,q3,qb,⟨l,q4,q5,q6,q7⟩,q8⟩:=h.mp m _ hm
       rw [hr] at q1; cases q1
       exact ⟨r,es,clock,l,rfl,EU q2 q3 qb,q4,q5,q6.mono hl,sg q7⟩
   | vec k c l =>
     simp only [ay] at hr
     obtain ⟨aE,off,c',vs,rfl,h1,h2,h3,h4,h5⟩:=hr
     cases c with
     | full=>simp only [resolve,ay]; exact ⟨aE,off,c',vs,rfl,h1,h2,h3,hi h4,sg h5⟩
     | own τ=>simp only [resolve,ay]; exact ⟨aE,off,c',vs,rfl,h1,h2,trivial,hi h4,sg h5⟩
     | jD=>simp only [resolve,ay]; exact ⟨aE,off,c',vs,rfl,h1,h2,trivial,hi h4,sg h5⟩
   | cn l =>
     simp only [resolve,ay] at hr ⊢
     obtain ⟨aE,off,vs,rfl,h1,h2⟩:=hr
     exact ⟨aE,off,vs,rfl,hi h1,sg h2⟩
   | eZ ks vs =>
     simp only [resolve,ay] at hr ⊢
     obtain ⟨r,es,c,l,rfl,he,hp,hs,h1,h2⟩:=hr
     exact ⟨r,es,c,l,rfl,hl.bI _ _ he,hp,hs,h1.mono hl,sg h2⟩
   | func f a b =>
     simp only [resolve,ay] at hr ⊢
     obtain ⟨fs,cs,rfl,h1,h2⟩:=hr
     exact ⟨fs,cs,rfl,sg h1,sg h2⟩
   | iface t x =>
     simp only [resolve,ay] at hr ⊢
     obtain ⟨u,rfl,h1⟩:=hr
     exact ⟨u,rfl,ih _ _ h1⟩
   | agg l =>
     simp only [resolve,ay] at hr ⊢
     obtain ⟨vs,rfl,h0,h1⟩:=hr
     exact ⟨vs,rfl,h0,sg h1⟩
   | aF l =>
     simp only [resolve,ay] at hr ⊢
     obtain ⟨vs,rfl,h1⟩:=hr
     exact ⟨vs,rfl,sg h1⟩
   | pX o=>simp only [resolve,ay]
   | it o=>simp only [resolve,ay]
   | any=>simp only [resolve,ay]
   | bool b=>simp only [resolve]; exact hr.mono hl
   | int k n=>simp only [resolve]; exact hr.mono hl
   | str s=>simp only [resolve]; exact hr.mono hl
   | aV=>simp only [resolve]; exact hr.mono hl
   | aw=>simp only [resolve]; exact hr.mono hl
   | jq=>simp only [resolve]; exact hr.mono hl
   | dj=>simp only [resolve]; exact hr.mono hl
   | cJ=>simp only [resolve]; exact hr.mono hl
theorem Pure.yO {C:cq} {f:Nat} {args:List AV} {x:AV} (A6:∀ i,closed (C.xy i)=true) (hargs:bY args=true) (hx:closed x=true) (d:Nat)
 (h:ae C f args (bC ⟨.e,0⟩) (fun r U=>∃ v,r=.ret v/\resolve d U v=x)):Pure C f args x:=by
 intro U R hR g w vs hs hG ha
 let g0:Gh:={ base:=w.heap.size,w0:=w,place:=fun _=>none,bS:=g.bS,bI:=g.bI,res:=fun _=>false }
 have xK:a8 g0 (bC ⟨.e,0⟩) w:={
  below:=Below.refl _ _
  le:=dk _
  bS:=hs.bS
  bI:=hs.bI
  live:=fun b x hb=>by cases hb
  apart:=fun b b' x x' p p' hb=>by cases hb
  res:=fun r hr=>by cases hr
  fin:=⟨0,fun n hn=>by cases hn; rfl,fun _ _=>rfl⟩ }
 have Mb:gD C g0:=⟨fun i=>ay.closed (g:=g) (g':=g0) (fun _ _ _ h=>h) (fun _ _ h=>h) _ _ (A6 i) (hG.1 i),fun i cs hi=>by
  obtain ⟨k1,t,fr,k2⟩:=hG.2 i cs hi
  refine ⟨Nat.lt_of_lt_of_le k1 hs.le,t,fr,?_⟩
  show w.heap[i]?=_
  rw [hs.below.block i k1]; exact k2⟩
 have Fx:az g0 args vs:=az.closed (g:=g) (g':=g0) (fun _ _ _ h=>h) (fun _ _ h=>h) _ _ hargs ha
 refine (h g0 w vs xK Mb Fx).mono ?_
 rintro e w' hp
 cases e with
 | panicked ch=>obtain ⟨g',ad,y,v,_,_,_,_,z,hz,_⟩:=hp; cases hz
 | outgrown=>exact hp.elim
 | returned v =>
   obtain ⟨g',ad,y,h1,h2,h3,z,hz,hres⟩:=hp
   cases hz
   have bO:=zG h2 d y v h3
   rw [hres] at bO
   have sf:=h2.Bl
   have hle:=h1.trans sf
   have aen:g'.base=w.heap.size:=h1.base
   have vy:Below w.heap.size w w':=by
    have:=h2.below
    rw [h1.base,h1.w0] at this
    exact this
   let gF:Gh:={ base:=g.base,w0:=g.w0,place:=g.place,bS:=(g'.all w').bS,bI:=(g'.all w').bI,res:=g.res }
   have FJ:Gh.Le g gF:=⟨rfl,rfl,fun _ _ h=>h,fun b o u hu=>hle.bS b o u hu,fun b u hu=>hle.bI b u hu,fun _ h=>h,
    fun b o hb=>hle.xQ b o (by show b < w.heap.size; have:=hs.le; omega),fun b hb=>hle.uP b (by show b < w.heap.size; have:=hs.le; omega)⟩
   refine ⟨gF,U,x,FJ,?_,ay.closed (g:=g'.all w') (g':=gF) (fun _ _ _ h=>h) (fun _ _ h=>h) x v hx bO,hR⟩
   exact {
    below:=hs.below.trans (vy.mono hs.le)
    le:=Nat.le_trans hs.le vy.size
    bS:=fun q o u hu=>vj h2 q o u hu
    bI:=fun q es c hu=>tL h2 q es c hu
    live:=fun b l hb=>by
     obtain ⟨p,k1,k2,k3⟩:=hs.live b l hb
     have aO:=k3.lt
     exact ⟨p,k1,k2,k3.frame FJ.r (vy.block _ aO) (fun o=>hle.xQ _ o aO) (hle.uP _ aO)⟩
    apart:=hs.apart
    res:=fun r hr=>by
     obtain ⟨k1,k2⟩:=hs.res r hr
     exact ⟨k1,by rw [vy.block _ (jR.1 k2).1]; exact k2⟩
    fin:=hs.fin }
def abA (d:Nat) (x:AV):KR
 | .ret v,e=>ij (resolve d (bC e) v) x
 | .panic _,_=>false
theorem Pure.eQ {V:gM} (hV:pY V) (n d:Nat) {f:Nat} {args:List AV} {x:AV} (A6:∀ i,closed (V.C.xy i)=true) (h:(bY args && closed x && rq V (mH V n) f args ⟨.e,0⟩ (abA d x))=true):Pure V.C f args x:=by
 simp only [bL] at h
 refine Pure.yO A6 h.1.1 h.1.2 d ((Xn hV n f args ⟨.e,0⟩ _ h.2).mono ?_)
 rintro r U ⟨e,rfl,hk⟩
 cases r with
 | ret v=>exact ⟨v,rfl,ux hk⟩
 | panic v=>cases hk
end Go.Rip
namespace Go.Rip
open Go.RowKit
def SB (R:St->Prop):Ex->Env->St->Prop
 | .normal,_,U=>R U
 | .ret,_,U=>R U
 | _,_,_=>False
theorem Vn {C:cq} {f:FuncId} {fn:Func} {id:Nat} {o:Oper} {d:Nat} {rest:Code} {args:List AV} {U:St} {g:Gh} {w:World} {vs:List Value}
 (hf:C.P.funcs[f]?=some fn) (hb:fn.body=some (.seq (.region id #[o] false) rest)) (hres:fn.results=#[]) (hop:∀ ev w,(execOp ev o).run C.P w=.ok .recover w) (hd:o.dst=some d) (hdn:d < fn.ntmps) (hg:o.guard=none)
 (hlen:args.length <= fn.ntmps) (hs:a8 g U w) (hG:gD C g) (ha:az g args vs) {x:AV} {v:Value} {u u':FrameMode} (hx:ay g x v)
 (hu:(u=.returning/\v=.nilIface/\u'=.returning)\/(u=.panicking [{ v,recovered:=false }]/\u'=.panicking [{ v,recovered:=true }])) (R:St->Prop)
 (h:bo C fn.ntmps .bare rest (SB R) ((Env.iJ args).put d x) U) :
 CallsDIn Fence.wide 0 C.P f vs.toArray u w (fun e u2 w'=>∃ v',e=.returned v'/\u2=u'/\∃ g' ad,Gh.Le g g'/\a8 g' ad w'/\R ad):=by
 refine callsDIn_of_wpSIn hf hb trivial fun Fg cs hm=>?_
 refine wpSIn_seq (wpSIn_region ?_)
 have hl:=ha.length
 have dQ:(vs.toArray++Array.replicate (fn.ntmps - vs.toArray.size) undef).size=fn.ntmps:=by simp; omega
 have Cl:ga g (Env.iJ args) (vs.toArray++Array.replicate (fn.ntmps - vs.toArray.size) undef):=zR args vs _ ha
 have adl:=Cl.put (d:=d) (by rw [dQ]; exact hdn) hx
 have after:∀ AK,(AK={ Fg with mode:=u' }::cs)->rest.wpSIn Fence.wide 0 C.P (bodyPostS C.P fn Fg cs fun e u2 w'=>∃ v',e=.returned v'/\u2=u'/\∃ g' ad,Gh.Le g g'/\a8 g' ad w'/\R ad)
  (Act.put { tmps:=vs.toArray++Array.replicate (fn.ntmps - vs.toArray.size) undef,defers:=[] } o.dst v) AK w:=fun AK sb=>by
  refine wpSIn_of_wpIn rfl ?_
  have:=h g w (Act.put { tmps:=vs.toArray++Array.replicate (fn.ntmps - vs.toArray.size) undef,defers:=[] } o.dst v) none hs hG (by rw [hd]; exact adl) (by rw [(ni _ _ _).2]; exact dQ) trivial
  refine wpIn_mono this ?_
  rintro e a w' ⟨q1,g',ad,dx,ms,q2,q3,q4,q5,q6,q7⟩
  have xI:ms=[]:=q3.none rfl
  subst xI
  rw [(ni _ _ _).1] at q2
  simp only [lq,kK] at q2
  have hr:∀ tmps,(results fn tmps).run C.P w'=.ok (.tuple #[]) w':=fun tmps=>by
   unfold results
   rw [hres]
   simp
  cases e with
  | normal=>exact ⟨q2,u',sb,_,hr _,_,rfl,rfl,g',ad,q4,q5,q7⟩
  | ret=>exact ⟨q2,u',sb,_,hr _,_,rfl,rfl,g',ad,q4,q5,q7⟩
  | exit id=>exact q7.elim
  | panic ch=>obtain ⟨_,_,_,_,hf⟩:=q7; exact hf.elim
  | goto l=>exact q7.elim
  | outgrown=>exact q7.elim
 have hw:Region.wanted o (yielded #[o] (vs.toArray++Array.replicate (fn.ntmps - vs.toArray.size) undef))=true:=by simp [Region.wanted,hg]
 show wpOpsSIn Fence.wide 0 C.P #[o] _ [0] _ _ _
 simp only [wpOpsSIn,List.getElem?_toArray,List.getElem?_cons_zero,hw,if_true,hop]
 refine ⟨fun _ _=>trivial,?_⟩
 rcases hu with ⟨rfl,rfl,rfl⟩ | ⟨rfl,rfl⟩
 . have e1:recoverD (Fg::cs)=none:=by simp [recoverD,hm]
   rw [e1]
   exact after _ (by rw [<- hm])
 . have e1:recoverD (Fg::cs)=some (v,{ Fg with mode:=.panicking [{ v,recovered:=true }] }::cs):=by simp [recoverD,hm]
   rw [e1]
   exact after _ rfl
end Go.Rip
