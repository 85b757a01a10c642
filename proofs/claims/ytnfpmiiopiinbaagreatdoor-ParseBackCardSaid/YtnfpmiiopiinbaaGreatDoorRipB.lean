/- Lemmas for the proof: no conditions. -/
import Derived.Test.YtnfpmiiopiinbaaGreatDoorRipZz
import Derived.Test.YtnfpmiiopiinbaaGreatDoorRipA
import Derived.OrdersIn
import Derived.RecoverIn
set_option linter.unusedVariables false
set_option linter.unusedSimpArgs false
set_option linter.loopingSimpArgs false
namespace Go.Rip
open Go.RowKit
inductive cR where
 | ret (x:AV)
 | panic (x:AV)
inductive Ex where
 | normal
 | exit (id:Nat)
 | ret
 | panic (x:AV)
def FW (ro:Option Nat):Fence:={ Fence.wide with round:=ro }
def pF (g:Gh) (R:cR->St->Prop):Ending->World->Prop
 | .returned v,w'=>∃ g' ad x,Gh.Le g g'/\bo g' ad w'/\az g' x v/\R (.ret x) ad
 | .panicked ch,w'=>∃ g' ad x v,ch=[{ v,recovered:=false }]/\Gh.Le g g'/\bo g' ad w'/\az g' x v/\R (.panic x) ad
 | .outgrown,_=>False
def ae (C:cQ) (f:FuncId) (args:List AV) (U:St) (R:cR->St->Prop):Prop :=
 ∀ g w vs,bo g U w->iL C g->aA g args vs->CallsIn Fence.wide 0 C.P f (List.toArray vs) w (pF g R)
def mU (C:cQ) (o:Nat) (args:List AV) (U:St) (R:cR->St->Prop):Prop :=
 ∀ g w vs x,bo g U w->iL C g->aA g args vs->g.place o=some x->∃ fn tmps assign body,(Instr.yield x.aI (List.toArray vs)).run C.P w=.ok (.round x.aI fn tmps assign body) w /\
  RoundIn Fence.wide 0 C.P x.aI fn tmps assign body w (pF g R)
theorem pF.mono {g:Gh} {R R':cR->St->Prop} {e:Ending} {w:World} (h:pF g R e w) (hr:∀ r U,R r U->R' r U):pF g R' e w:=by
 cases e with
 | returned v=>obtain ⟨g',ad,x,h1,h2,h3,h4⟩:=h; exact ⟨g',ad,x,h1,h2,h3,hr _ _ h4⟩
 | panicked ch=>obtain ⟨g',ad,x,v,h0,h1,h2,h3,h4⟩:=h; exact ⟨g',ad,x,v,h0,h1,h2,h3,hr _ _ h4⟩
 | outgrown=>exact h
theorem ae.mono {C:cQ} {f:FuncId} {args:List AV} {U:St} {R R':cR->St->Prop} (h:ae C f args U R) (hr:∀ r U,R r U->R' r U):ae C f args U R' :=
 fun g w vs hs hG ha=>(h g w vs hs hG ha).mono fun _ _ hp=>hp.mono hr
theorem mU.mono {C:cQ} {f:Nat} {args:List AV} {U:St} {R R':cR->St->Prop} (h:mU C f args U R) (hr:∀ r U,R r U->R' r U):mU C f args U R' :=
 fun g w vs x hs hG ha hx=>let ⟨a,b,c,d,e,r⟩:=h g w vs x hs hG ha hx; ⟨a,b,c,d,e,r.mono fun _ _ hp=>hp.mono hr⟩
def ag (K:AV->St->Prop) (Kp:AV->St->Prop):cR->St->Prop
 | .ret x,U=>K x U
 | .panic x,U=>Kp x U
def aD.wp (C:cQ) (U:St) (K:AV->St->Prop) (Kp:AV->St->Prop):aD->Prop
 | .val v=>K v U
 | .iH v b x=>K v (U.set b x)
 | .new k del x=>∀ b,(U.tf del).dD b->K (k.at b) ((U.tf del).new b x)
 | .lW b l=>∀ p ∈ l,K p.1 (U.set b p.2)
 | .enter f args=>ae C f args U (ag K Kp)
 | .yield l args=>mU C l args U (ag K Kp)
 | .panic v=>Kp v U
 | @aD.cond p _ r=>p/\r.wp C U K Kp
 | .bad=>False
def iz (ops:Array Oper) (ρ:Env):Option (Nat × Bool)->AV
 | none=>.bool true
 | some (j,want)=>match (ops[j]?).bind (·.dst) with
   | some d=>match ρ.get d with
     | .bool b=>.bool (b == want)
     | .aH []=>.bool false
     | _=>.any
   | none=>.any
def aw:AV->Prop->Prop->Prop
 | .bool b,A,B=>(b=true->A)/\(b=false->B)
 | _,_,_=>False
def pR (C:cQ) (mu:List Nat) (ops:Array Oper):List Oper->Env->St->(Env->St->Prop)->(AV->St->Prop)->Prop
 | [],ρ,U,K,_=>K ρ U
 | o::rest,ρ,U,K,Kp=>aw (iz ops ρ o.guard)
    ((j6 C (match o.dst with | some d=>mu.contains d | none=>false) o.op ρ U).wp C U (fun v ad=>pR C mu ops rest (ρ.eM o.dst v) ad K Kp) Kp)
    (pR C mu ops rest (ρ.eM o.dst (.aH [])) U K Kp)
def GI (r:Nat):Deferred:={ target:=.collected r,args:=#[] }
def Hs (g:Gh) (Q:Ex->Env->St->Prop) (ρ:Env) (U:St):Exit->Prop
 | .normal=>Q .normal ρ U
 | .exit id=>Q (.exit id) ρ U
 | .ret=>Q .ret ρ U
 | .panic ch=>∃ x v,ch=[{ v,recovered:=false }]/\az g x v/\Q (.panic x) ρ U
 | .goto _=>False
 | .outgrown=>False
inductive Ro where
 | fn
 | bare
 | round (o:Nat)
def Ro.nm:Ro->Bool
 | .bare=>true
 | _=>false
structure py (nm:Bool) (g g':Gh) (ms:List Nat):Prop where
 none:nm=true->ms=[]
 nodup:ms.Nodup
 res:∀ r ∈ ms,g'.res r=true/\g.res r=false
theorem mC (nm:Bool) (g g':Gh):py nm g g' []:=⟨fun _=>rfl,List.nodup_nil,by simp⟩
theorem py.append {nm:Bool} {g g1 g2:Gh} {m1 m2:List Nat} (h1:py nm g g1 m1) (h2:py nm g1 g2 m2) (l1:Gh.Le g g1) (l2:Gh.Le g1 g2):py nm g g2 (m2++m1):=by
 refine ⟨fun h=>by rw [h1.none h,h2.none h]; rfl,List.nodup_append.2 ⟨h2.nodup,h1.nodup,fun x hx y hy e=>?_⟩,fun r hr=>?_⟩
 . subst e
   have:=(h2.res x hx).2
   rw [(h1.res x hy).1] at this; cases this
 . simp only [fS] at hr
   rcases hr with hr | hr
   . refine ⟨(h2.res r hr).1,?_⟩
     cases e:g.res r with
     | false=>rfl
     | true=>have:=(h2.res r hr).2; rw [l1.res _ e] at this; cases this
   . exact ⟨l2.res _ (h1.res r hr).1,(h1.res r hr).2⟩
def rE (g:Gh) (nt:Nat) (nm:Bool) (ds:List Deferred) (Q:Ex->Env->St->Prop) (e:Exit) (a:Act) (w:World):Prop :=
 a.tmps.size=nt/\∃ g' U ρ ms,a.defers=ms.map GI++ds/\py nm g g' ms/\Gh.Le g g'/\bo g' U w/\hY g' ρ a.tmps/\Hs g' Q ρ U e
def G0 (g:Gh):Ro->Option Nat->Prop
 | .fn,none=>True
 | .bare,none=>True
 | .round o,some l=>∃ x,g.place o=some x/\x.aI=l
 | _,_=>False
theorem G0.mono {g g':Gh} (h:Gh.Le g g') {ro:Ro} {fr:Option Nat} (hr:G0 g ro fr):G0 g' ro fr:=by
 cases ro <;> cases fr <;> simp only [G0] at hr ⊢
 obtain ⟨x,h1,h2⟩:=hr
 exact ⟨x,h.place _ _ h1,h2⟩
def bH (C:cQ) (nt:Nat) (ro:Ro) (c:Code) (Q:Ex->Env->St->Prop) (ρ:Env) (U:St):Prop :=
 ∀ g w a fr,bo g U w->iL C g->hY g ρ a.tmps->a.tmps.size=nt->G0 g ro fr->c.wpIn (FW fr) 0 C.P (rE g nt ro.nm a.defers Q) a w
section
variable {C:cQ} {g:Gh} {U:St} {w:World} {nt:Nat} {nm:Bool} {ro:Ro} {Q:Ex->Env->St->Prop} {ρ:Env}
theorem Hs.mono {Q':Ex->Env->St->Prop} {e:Exit} (h:Hs g Q ρ U e) (hq:∀ e ρ U,Q e ρ U->Q' e ρ U):Hs g Q' ρ U e:=by
 cases e <;> first
  | exact hq _ _ _ h
  | (obtain ⟨x,v,h1,h2,h3⟩:=h; exact ⟨x,v,h1,h2,hq _ _ _ h3⟩)
  | exact h
theorem bH.mono {c:Code} {Q':Ex->Env->St->Prop} (h:bH C nt ro c Q ρ U) (hq:∀ e ρ U,Q e ρ U->Q' e ρ U):bH C nt ro c Q' ρ U :=
 fun g w a fr h1 h2 h3 h4 yI=>wpIn_mono (h g w a fr h1 h2 h3 h4 yI) fun e a' w' ⟨k1,g',ad,er,ms,k2,k3,k4,k5,k6,k7⟩=>⟨k1,g',ad,er,ms,k2,k3,k4,k5,k6,k7.mono hq⟩
theorem rE.back {g':Gh} {ds:List Deferred} {ms:List Nat} {e:Exit} {a:Act} (h:rE g' nt nm (ms.map GI++ds) Q e a w) (zt:py nm g g' ms) (hle:Gh.Le g g'):rE g nt nm ds Q e a w:=by
 obtain ⟨k1,g2,ad,er,ID,k2,k3,k4,k5,k6,k7⟩:=h
 exact ⟨k1,g2,ad,er,ID++ms,by rw [k2,List.map_append,gn],zt.append k3 hle k4,hle.trans k4,k5,k6,k7⟩
def abD (K:Env->St->Prop) (Q:Ex->Env->St->Prop):Ex->Env->St->Prop
 | .normal,ρ,U=>K ρ U
 | e,ρ,U=>Q e ρ U
theorem bH.seq {x y:Code} (h:bH C nt ro x (abD (fun ρ U=>bH C nt ro y Q ρ U) Q) ρ U):bH C nt ro (.seq x y) Q ρ U:=by
 intro g w a fr h1 h2 h3 h4 yI
 refine wpIn_seq (wpIn_mono (h g w a fr h1 h2 h3 h4 yI) ?_)
 rintro e a' w' ⟨k1,g',ad,er,ms,k2,k3,k4,k5,k6,k7⟩
 cases e with
 | normal =>
   have:=k7 g' w' a' fr k5 (h2.mono k4) k6 k1 (yI.mono k4)
   rw [k2] at this
   exact wpIn_mono this fun e a w hp=>hp.back k3 k4
 | exit id=>exact ⟨k1,g',ad,er,ms,k2,k3,k4,k5,k6,k7⟩
 | ret=>exact ⟨k1,g',ad,er,ms,k2,k3,k4,k5,k6,k7⟩
 | panic ch=>exact ⟨k1,g',ad,er,ms,k2,k3,k4,k5,k6,k7⟩
 | goto l=>exact k7.elim
 | outgrown=>exact k7.elim
theorem zR {a:Act} {ds:List Deferred} {e:Exit} (h:bo g U w) (hr:hY g ρ a.tmps) (hn:a.tmps.size=nt) (hd:a.defers=ds) (hq:Hs g Q ρ U e):rE g nt nm ds Q e a w :=
 ⟨hn,g,U,ρ,[],by simpa using hd,mC _ _ _,Gh.Le.refl g,h,hr,hq⟩
theorem bH.skip (h:Q .normal ρ U):bH C nt ro .skip Q ρ U:=fun g w a fr h1 h2 h3 h4 _=>wpIn_skip (zR h1 h3 h4 rfl h)
theorem bH.exit {id:Nat} (h:Q (.exit id) ρ U):bH C nt ro (.exit id) Q ρ U:=fun g w a fr h1 h2 h3 h4 _=>wpIn_exit (zR h1 h3 h4 rfl h)
theorem bH.ret (h:Q .ret ρ U):bH C nt ro .ret Q ρ U:=fun g w a fr h1 h2 h3 h4 _=>wpIn_ret (zR h1 h3 h4 rfl h)
theorem bH.cond {c:Operand} {x y:Code} {b:Bool} (hc:ρ.ev C c=.bool b) (h1:b=true->bH C nt ro x Q ρ U) (h2:b=false->bH C nt ro y Q ρ U):bH C nt ro (.cond c x y) Q ρ U:=by
 intro g w a fr k1 k2 k3 k4 k5
 have:=ue k2 k3 c
 rw [hc] at this
 simp only [az] at this
 exact wpIn_cond_split this (fun e=>h1 e g w a fr k1 k2 k3 k4 k5) (fun e=>h2 e g w a fr k1 k2 k3 k4 k5)
theorem bH.adk {c:Operand} {x y:Code} (hc:ρ.ev C c=.bool true) (h1:bH C nt ro x Q ρ U):bH C nt ro (.cond c x y) Q ρ U:=bH.cond hc (fun _=>h1) (fun h=>by cases h)
theorem bH.adj {c:Operand} {x y:Code} (hc:ρ.ev C c=.bool false) (h1:bH C nt ro y Q ρ U):bH C nt ro (.cond c x y) Q ρ U:=bH.cond hc (fun h=>by cases h) (fun _=>h1)
def y7 (id:Nat) (Q:Ex->Env->St->Prop):Ex->Env->St->Prop
 | .exit Br,ρ,U=>if Br=id then Q .normal ρ U else Q (.exit Br) ρ U
 | e,ρ,U=>Q e ρ U
theorem bH.block {id:Nat} {c:Code} (h:bH C nt ro c (y7 id Q) ρ U):bH C nt ro (.block id c) Q ρ U:=by
 intro g w a fr h1 h2 h3 h4 yI
 refine wpIn_block (wpIn_mono (h g w a fr h1 h2 h3 h4 yI) ?_)
 rintro e a' w' ⟨k1,g',ad,er,ms,k2,k3,k4,k5,k6,k7⟩
 cases e with
 | normal=>exact ⟨k1,g',ad,er,ms,k2,k3,k4,k5,k6,k7⟩
 | exit Br =>
   have k7:y7 id Q (.exit Br) er ad:=k7
   simp only [y7] at k7
   simp only [Exit.inBlock]
   split
   . rename_i e; rw [if_pos e] at k7; exact ⟨k1,g',ad,er,ms,k2,k3,k4,k5,k6,k7⟩
   . rename_i e; rw [if_neg e] at k7; exact ⟨k1,g',ad,er,ms,k2,k3,k4,k5,k6,k7⟩
 | ret=>exact ⟨k1,g',ad,er,ms,k2,k3,k4,k5,k6,k7⟩
 | panic ch=>exact ⟨k1,g',ad,er,ms,k2,k3,k4,k5,k6,k7⟩
 | goto l=>exact k7.elim
 | outgrown=>exact k7.elim
theorem bH.loop {c:Code} (I:Nat->Env->St->Prop) {n:Nat} (h0:I n ρ U) (round:∀ n ρ U,I n ρ U->bH C nt ro c (abD (fun er ad=>∃ m,m < n/\I m er ad) Q) ρ U):bH C nt ro (.loop c) Q ρ U:=by
 intro g w a fr h1 h2 h3 h4 yI
 let J:Nat->Act->World->Prop:=fun n a' w'=>a'.tmps.size=nt/\∃ g' ad er ms,a'.defers=ms.map GI++a.defers/\py ro.nm g g' ms/\Gh.Le g g'/\bo g' ad w'/\hY g' er a'.tmps/\I n er ad
 have ex:∀ a' w',(∃ n,J n a' w')->∃ n,J n a' w'/\∀ m,m < n->¬ J m a' w':=fun a' w' ⟨n,hn⟩=>by
  induction n using Nat.strongRecOn with
  | _ n ih =>
    by_cases hm:∃ m,m < n/\J m a' w'
    . obtain ⟨m,KX,V7⟩:=hm; exact ih m KX V7
    . exact ⟨n,hn,fun m KX V7=>hm ⟨m,KX,V7⟩⟩
 classical
 let μ:Act->World->Nat:=fun a' w'=>if h:∃ n,J n a' w' then (ex a' w' h).choose else 0
 have hμ:∀ a' w',(∃ n,J n a' w')->J (μ a' w') a' w'/\∀ m,m < μ a' w'->¬ J m a' w':=fun a' w' h=>by
  have:=(ex a' w' h).choose_spec
  simp only [μ,dif_pos h]; exact this
 refine wpIn_loop (fun a' w'=>∃ n,J n a' w') μ ⟨n,h4,g,U,ρ,[],by simp,mC _ _ _,Gh.Le.refl g,h1,h3,h0⟩ ?_
 intro a' w' hJ
 obtain ⟨⟨k1,g',ad,er,ms,k2,k3,k4,k5,k6,k7⟩,_⟩:=hμ a' w' hJ
 refine wpIn_mono (round _ er ad k7 g' w' a' fr k5 (h2.mono k4) k6 k1 (yI.mono k4)) ?_
 intro e a2 w2 hp
 rw [k2] at hp
 have hp:=hp.back k3 k4
 obtain ⟨q1,g2,a7,rT,ID,q2,q3,q4,q5,q6,q7⟩:=hp
 cases e with
 | normal =>
   obtain ⟨m,hm,hI⟩:=q7
   have hJ2:J m a2 w2:=⟨q1,g2,a7,rT,ID,q2,q3,q4,q5,q6,hI⟩
   refine ⟨⟨m,hJ2⟩,?_⟩
   have:=(hμ a2 w2 ⟨m,hJ2⟩).2
   rcases jL (μ a2 w2) (μ a' w') with h | h
   . exact h
   . exact absurd hJ2 (this m (by omega))
 | exit id=>exact ⟨q1,g2,a7,rT,ID,q2,q3,q4,q5,q6,q7⟩
 | ret=>exact ⟨q1,g2,a7,rT,ID,q2,q3,q4,q5,q6,q7⟩
 | panic ch=>exact ⟨q1,g2,a7,rT,ID,q2,q3,q4,q5,q6,q7⟩
 | goto l=>exact q7.elim
 | outgrown=>exact q7.elim
end
end Go.Rip
namespace Go.Rip
open Go.RowKit
section
variable {C:cQ} {g:Gh} {U:St} {w:World} {nt:Nat} {nm:Bool} {ro:Ro} {fr:Option Nat} {Q:Ex->Env->St->Prop} {ρ:Env}
def B7 (nt:Nat) (o:Oper):Bool :=
 (match o.dst with | some d=>decide (d < nt) | none=>true) && (match o.op with | .defer _=>false | _=>true)
def lJ (nt:Nat) (ops:Array Oper):Bool:=ops.toList.all (B7 nt)
theorem Bb {ops:Array Oper} {a:Act} (hr:hY g ρ a.tmps) {o:Oper} {b:Bool} (h:iz ops ρ o.guard=.bool b):Region.wanted o (yielded ops a.tmps)=b:=by
 unfold iz at h
 unfold Region.wanted
 cases hg:o.guard with
 | none=>simp [hg] at h; simp [h]
 | some jw =>
   obtain ⟨j,want⟩:=jw
   simp only [hg] at h ⊢
   split at h
   . rename_i d hd
     split at h
     . rename_i b' hb
       simp only [AV.bool.injEq] at h
       subst h
       have:=hr d
       rw [hb] at this
       simp only [az] at this
       have tg:a.tmps[d]?=some (.bool b'):=by
        rw [Array.getD_eq_getD_getElem?] at this
        cases ht:a.tmps[d]? with
        | none=>rw [ht] at this; simp [undef] at this
        | some v=>rw [ht] at this; simp at this; rw [this]
       unfold yielded
       rw [hd]
       simp only [Option.bind_some,tg]
       cases b' <;> cases want <;> rfl
     . rename_i hb
       simp only [AV.bool.injEq] at h
       subst h
       have:=hr d
       rw [hb] at this
       simp only [az,aA] at this
       obtain ⟨vs,this,rfl⟩:=this
       have tg:∀ b,a.tmps[d]? ≠ some (.bool b):=fun b ff=>by
        rw [Array.getD_eq_getD_getElem?,ff] at this
        simp at this
       unfold yielded
       rw [hd]
       simp only [Option.bind_some]
       first
        | rfl
        | (split
           . rename_i b' ff; exact absurd ff (tg _)
           . rfl)
     . cases h
   . cases h
theorem pj (a:Act) (dst:Option Tmp) (v:Value):(a.put dst v).defers=a.defers/\(a.put dst v).tmps.size=a.tmps.size:=by
 cases dst <;> simp [Act.put]
theorem hY.eM {a:Act} (hr:hY g ρ a.tmps) {dst:Option Tmp} {x:AV} {v:Value} (hd:∀ d,dst=some d->d < a.tmps.size) (hx:az g x v):hY g (ρ.eM dst x) (a.put dst v).tmps:=by
 cases dst with
 | none=>exact hr
 | some d=>exact hr.put (hd d rfl) hx
theorem vo:az g (.aH []) undef:=by simp only [az]; exact ⟨[],rfl,by simp [aA]⟩
def KQ (Q:Ex->Env->St->Prop):Env->St->Prop:=fun ρ U=>Q .normal ρ U
def yD (Q:Ex->Env->St->Prop):AV->St->Prop:=fun x U=>∀ ρ,Q (.panic x) ρ U
theorem qB {o:Oper} (cK:B7 nt o=true) {mu:Bool} {K:AV->St->Prop} {Kp:AV->St->Prop} {ds:List Deferred} {next:Act->World->Prop} {a:Act}
 (hs:bo g U w) (hG:iL C g) (hr:hY g ρ a.tmps) (hn:a.tmps.size=nt)
 (h:(j6 C mu o.op ρ U).wp C U K Kp)
 (pB:∀ g' ad w' x v,Gh.Le g g'->bo g' ad w'->az g' x v->K x ad->next (a.put o.dst v) w')
 {QQ:Exit->Act->World->Prop} (HY:∀ g' ad w' x v,Gh.Le g g'->bo g' ad w'->az g' x v->Kp x ad->QQ (.panic [{ v,recovered:=false }]) a w') :
 o.wpIn (FW fr) 0 C.P a w next QQ:=by
 refine ⟨fun _ _=>trivial,?_⟩
 have HJ:∀ c,o.op ≠ .defer c:=fun c e=>by simp [B7,e] at cK
 rw [Oper.semAt_eq _ _ _ HJ]
 have fits:=Ux (C:=C) hs hG hr mu o
 generalize hres:(execOp a.eval o).run C.P w=res at fits ⊢
 generalize j6 C mu o.op ρ U=r at fits h
 have val:∀ {x ad},(∃ u w' g',(res=.ok (.value u) w'\/(res=.ok .skip w'/\u=undef))/\Gh.Le g g'/\bo g' ad w'/\az g' x u)->K x ad->o.uponIn (FW fr) 0 C.P a next QQ res:=by
  rintro x ad ⟨u,w',g',hu,hle,eO,hx⟩ hk
  rcases hu with rfl | ⟨rfl,rfl⟩
  . exact pB g' ad w' x u hle eO hx hk
  . exact pB g' ad w' x undef hle eO hx hk
 induction r with
 | val v=>exact val fits h
 | iH v b x=>exact val fits h
 | new k del x=>obtain ⟨u,w',g',b,rfl,hb,hle,eO,hx⟩:=fits; exact pB g' _ w' _ u hle eO hx (h b hb)
 | lW b l=>obtain ⟨u,w',g',v,x,rfl,hm,hle,eO,hx⟩:=fits; exact pB g' _ w' _ u hle eO hx (h (v,x) hm)
 | enter f args =>
   obtain ⟨vs,w',rfl,eO,ha⟩:=fits
   refine ⟨fun hd=>by simp [FW,Fence.wide] at hd,?_⟩
   have hc:CallsIn (FW fr) 0 C.P f (List.toArray vs) w' (pF g (ag K Kp)):=h g w' vs eO hG ha
   refine hc.mono ?_
   rintro e w2 hp
   cases e with
   | returned v=>obtain ⟨g',ad,x,h1,h2,h3,h4⟩:=hp; exact pB g' ad w2 x v h1 h2 h3 h4
   | panicked ch=>obtain ⟨g',ad,x,v,rfl,h1,h2,h3,h4⟩:=hp; exact HY g' ad w2 x v h1 h2 h3 h4
   | outgrown=>exact hp.elim
 | yield l args =>
   obtain ⟨vs,x,w0,w',hx,rfl,rfl,eO,ha⟩:=fits
   obtain ⟨fn,tmps,assign,body,hy,hR⟩:=h g w' vs x eO hG ha hx
   rw [hy]
   refine ⟨fun hd=>by simp [FW,Fence.wide] at hd,?_⟩
   have hc:RoundIn (FW fr) 0 C.P x.aI fn tmps assign body w' (pF g (ag K Kp)):=hR
   refine hc.mono ?_
   rintro e w2 hp
   cases e with
   | returned v=>obtain ⟨g',ad,x,h1,h2,h3,h4⟩:=hp; exact pB g' ad w2 x v h1 h2 h3 h4
   | panicked ch=>obtain ⟨g',ad,x,v,rfl,h1,h2,h3,h4⟩:=hp; exact HY g' ad w2 x v h1 h2 h3 h4
   | outgrown=>exact hp.elim
 | panic v=>obtain ⟨u,w',rfl,eO,hx⟩:=fits; exact HY g _ w' v u (Gh.Le.refl g) eO hx h
 | cond p r ih=>exact ih (fits h.1) h.2
 | bad=>exact h.elim
theorem xW {mu:List Nat} {ops:Array Oper} (cK:lJ nt ops=true) (g0:Gh):∀ (l:List Nat) (g:Gh) (U:St) (w:World) (ρ:Env) (a:Act) (ds:List Deferred),Gh.Le g0 g->bo g U w->iL C g->hY g ρ a.tmps->a.tmps.size=nt->a.defers=ds ->
 pR C mu ops (l.filterMap (ops[·]?)) ρ U (KQ Q) (yD Q)->wpOpsIn (FW fr) 0 C.P ops (rE g0 nt nm ds Q) l a w
 | [],g,U,w,ρ,a,ds,h0,hs,hG,hr,hn,hd,h=>by
   simp only [wpOpsIn]
   exact ⟨hn,g,U,ρ,[],by simpa using hd,mC _ _ _,h0,hs,hr,h⟩
 | i::rest,g,U,w,ρ,a,ds,h0,hs,hG,hr,hn,hd,h=>by
   simp only [wpOpsIn]
   cases ho:ops[i]? with
   | none =>
     simp only [List.filterMap_cons,ho] at h
     exact xW cK g0 rest g U w ρ a ds h0 hs hG hr hn hd h
   | some o =>
     dsimp only
     simp only [List.filterMap_cons,ho,pR] at h
     have nQ:o ∈ ops.toList:=by
      have:=gh (l:=ops.toList) (i:=i) (a:=o) (by rw [lA]; exact ho)
      exact this
     have HX:B7 nt o=true:=by
      unfold lJ at cK
      rw [fl] at cK
      exact cK o nQ
     have TV:∀ d,o.dst=some d->d < a.tmps.size:=fun d yH=>by
      simp only [B7,yH,bX,dS] at HX
      rw [hn]; exact HX.1
     have go:∀ g' ad w' x v,Gh.Le g g'->bo g' ad w'->az g' x v->pR C mu ops (rest.filterMap (ops[·]?)) (ρ.eM o.dst x) ad (KQ Q) (yD Q)->wpOpsIn (FW fr) 0 C.P ops (rE g0 nt nm ds Q) rest (a.put o.dst v) w':=fun g' ad w' x v hle eO hx hk =>
      xW cK g0 rest g' ad w' (ρ.eM o.dst x) (a.put o.dst v) ds (h0.trans hle) eO (hG.mono hle) ((hr.mono hle).eM TV hx) (by rw [(pj a o.dst v).2]; exact hn) (by rw [(pj a o.dst v).1]; exact hd) hk
     cases OX:iz ops ρ o.guard <;> rw [OX] at h <;> simp only [aw] at h
     rename_i b
     have hw:=Bb hr OX
     cases b
     . rw [if_neg (by rw [hw]; simp)]
       exact ⟨fun _ _=>trivial,go g U w (.aH []) undef (Gh.Le.refl g) hs vo (h.2 rfl)⟩
     . rw [if_pos hw]
       refine qB HX hs hG hr hn (h.1 rfl) go ?_ (ds:=ds)
       intro g' ad w' x v hle eO hx hk
       exact ⟨hn,g',ad,ρ,[],by simpa using hd,mC _ _ _,h0.trans hle,eO,hr.mono hle,x,v,rfl,hx,hk ρ⟩
theorem Dq (ops:Array Oper):(List.range ops.size).filterMap (ops[·]?)=ops.toList:=by
 apply List.ext_getElem?
 intro i
 have:∀ n,n <= ops.size->(List.range n).filterMap (ops[·]?)=ops.toList.take n:=fun n=>by
  induction n with
  | zero=>intro _; simp
  | succ n ih =>
    intro hn
    rw [List.range_succ,List.filterMap_append,ih (by omega),sw]
    have:ops[n]?=some ops[n]:=by simp
    simp [this]
 rw [this ops.size (cX _),qC (by simp)]
theorem bH.region {id:Nat} {ops:Array Oper} (mu:List Nat) (cK:lJ nt ops=true) (h:pR C mu ops ops.toList ρ U (KQ Q) (yD Q)):bH C nt ro (.region id ops false) Q ρ U:=by
 intro g w a fr h1 h2 h3 h4 yI
 exact wpIn_region (xW cK g (List.range ops.size) g U w ρ a a.defers (Gh.Le.refl g) h1 h2 h3 h4 rfl (by rw [Dq]; exact h))
end
end Go.Rip
namespace Go.Rip
open Go.RowKit
def mS (x:AV) (U:St) (x':AV) (ad:St):Prop:=∀ g w v,bo g U w->az g x v->∃ g',Gh.Le g g'/\bo g' ad w/\az g' x' v
theorem mS.refl (x:AV) (U:St):mS x U x U:=fun g w v h hr=>⟨g,Gh.Le.refl g,h,hr⟩
theorem mS.trans {x y z:AV} {a b c:St} (h:mS x a y b) (k:mS y b z c):mS x a z c:=fun g w v hs hr =>
 let ⟨g1,l1,s1,r1⟩:=h g w v hs hr
 let ⟨g2,l2,s2,r2⟩:=k g1 w v s1 r1
 ⟨g2,l1.trans l2,s2,r2⟩
theorem mS.weaken (x:AV) {U ad:St} (h:St.Le ad U):mS x U x ad:=fun g w v hs hr=>⟨g,Gh.Le.refl g,hs.weaken h,hr⟩
theorem mS.freeze {b:Nat} {U:St} {l:List AV} (hb:U.box b=some l):mS (.box b 0) U (.cN l) (U.del b):=fun g w v hs hr=>by
 simp only [az] at hr
 obtain ⟨x,hx,rfl⟩:=hr
 obtain ⟨g',vs,hle,_,hi,hl,eO⟩:=hs.freeze hb hx
 exact ⟨g',hle,eO,by simp only [az]; exact ⟨x.aI,0,vs,rfl,hi,hl.mono hle⟩⟩
theorem mS.TK {b n jr:Nat} {e:TypeId} {U:St} {l:List AV} (hb:U.box b=some l):mS (.ms b 0 n jr e) U (.vec n .iE l) (U.del b):=fun g w v hs hr=>by
 simp only [az] at hr
 obtain ⟨x,c,hx,rfl,h1,h2,_,_⟩:=hr
 obtain ⟨g',vs,hle,_,hi,hl,eO⟩:=hs.freeze hb hx
 exact ⟨g',hle,eO,by simp only [az]; exact ⟨x.aI,0,c,vs,rfl,h1,h2,trivial,hi,hl.mono hle⟩⟩
def AE (P:Program) (t:TypeId) (p:AV) (U:St) (k:AV->Prop):Prop :=
 match u7 P t p U with
 | .val v=>k v
 | @aD.cond q _ (.val v)=>q/\k v
 | _=>False
def vS (P:Program) (ρ:Env) (U:St):List ResultVar->(List AV->Prop)->Prop
 | [],k=>k []
 | .tmp t::rs,k=>vS P ρ U rs fun vs=>k (ρ.get t::vs)
 | .cell t ty::rs,k=>AE P ty (ρ.get t) U fun v=>vS P ρ U rs fun vs=>k (v::vs)
def vV:List AV->AV
 | [x]=>x
 | l=>.aH l
def af0 (P:Program) (fn:Func) (R:cR->St->Prop):Ex->Env->St->Prop
 | .normal,ρ,U | .ret,ρ,U=>vS P ρ U fn.results.toList fun vs=>∃ x ad,mS (vV vs) U x ad/\R (.ret x) ad
 | .panic x,_,U=>R (.panic x) U
 | .exit _,_,_=>False
def Env.j0 (args:List AV):Env:=⟨fun t=>args.getD t (.aH [])⟩
section
variable {C:cQ} {g:Gh} {U:St} {w:World} {nt:Nat} {ro:Ro} {Q:Ex->Env->St->Prop} {ρ:Env}
theorem PC (h:bo g U w) {t:TypeId} {p:AV} {v:Value} (hp:az g p v) {k:AV->Prop} (hk:AE C.P t p U k):∃ u x,(do loadVar t (<- asAddr v):Sem Value).run C.P w=.ok u w/\az g x u/\k x:=by
 unfold AE u7 at hk
 cases hv:oP C.P t with
 | none=>simp [hv] at hk
 | some bs =>
   obtain ⟨b,sz⟩:=bs
   cases hl:mW U p with
   | none=>rw [hv,hl] at hk; cases b <;> simp at hk
   | some l =>
     rw [hv,hl] at hk
     obtain ⟨i,d,hi,hd,hb,eP⟩:=px hv
     obtain ⟨a,vs,rfl,ha,hr,hc⟩:=sG h hp hl
     cases b
     . cases l with
       | nil=>simp [iX] at hk
       | cons x xs =>
         simp only [iX] at hk
         simp only [aA] at hr
         obtain ⟨u,us,rfl,h1,h2⟩:=hr
         have:=(hc 0 u rfl).1
         have h0:a.add 0=a:=by simp [Addr.add]
         rw [h0] at this
         refine ⟨u,x,?_,h1,hk⟩
         simp only [asAddr,loadVar,cr,cM,cJ,mi hd,hb,bU,if_false,run_load,this,fD]
     . obtain ⟨hle,hk⟩:=hk
       have hlen:=hr.length
       have iu:(loadCells a (vs.take sz).length).run C.P w=.ok (vs.take sz).toArray w :=
        run_loadCells_list (P:=C.P) w a (vs.take sz) fun j u hu=>by
         rw [List.getElem?_take] at hu
         split at hu
         . exact (hc j u hu).1
         . cases hu
       have tz:(vs.take sz).length=sz:=by simp; omega
       rw [tz] at iu
       have OJ:∀ u ∈ vs.take sz,u.oneCell'=true:=fun u hu=>by
        obtain ⟨j,hj⟩:=List.getElem?_of_mem hu
        rw [List.getElem?_take] at hj
        split at hj
        . exact (hc j u hj).2
        . cases hj
       refine ⟨.agg (vs.take sz).toArray,_,?_,?_,hk⟩
       . simp only [asAddr,loadVar,cr,cM,cJ,mi hd,hb,if_true,fe hi,eP,iu,fD]
       . simp only [az]; exact ⟨_,rfl,OJ,hr.take sz⟩
theorem Cd (h:bo g U w) {a:Act} (hr:hY g ρ a.tmps):∀ (rs:List ResultVar) (k:List AV->Prop),vS C.P ρ U rs k ->
 ∃ us xs,(rs.mapM (fun
  | .tmp t=>pure (a.tmps.getD t undef)
  | .cell p t=>do loadVar t (<- asAddr (a.tmps.getD p undef)):ResultVar->Sem Value)).run C.P w=.ok us w/\aA g xs us/\k xs
 | [],k,hk=>⟨[],[],by simp,by simp [aA],hk⟩
 | .tmp t::rs,k,hk=>by
   obtain ⟨us,xs,h1,h2,h3⟩:=Cd h hr rs _ hk
   exact ⟨a.tmps.getD t undef::us,ρ.get t::xs,by simp only [List.mapM_cons,cr,cM,cJ,h1],by simp only [aA]; exact ⟨_,_,rfl,hr t,h2⟩,h3⟩
 | .cell p t::rs,k,hk=>by
   obtain ⟨u,x,h4,h5,h6⟩:=PC h (hr p) hk
   obtain ⟨us,xs,h1,h2,h3⟩:=Cd h hr rs _ h6
   simp only [cr] at h4
   exact ⟨u::us,x::xs,by simp only [List.mapM_cons,cr,cM,h4,cJ,h1],by simp only [aA]; exact ⟨_,_,rfl,h5,h2⟩,h3⟩
theorem BH (h:bo g U w) {a:Act} (hr:hY g ρ a.tmps) {fn:Func} {k:List AV->Prop} (hk:vS C.P ρ U fn.results.toList k) :
 ∃ u xs,(results fn a.tmps).run C.P w=.ok u w/\az g (vV xs) u/\k xs:=by
 obtain ⟨us,xs,h1,h2,h3⟩:=Cd h hr _ k hk
 have e:(results fn a.tmps).run C.P w=.ok (if h:us.toArray.size=1 then us.toArray[0] else .tuple us.toArray) w:=by
  unfold results
  rw [Array.mapM_eq_mapM_toList]
  simp only [cr,Sem.run_map,cM]
  erw [h1]
  rfl
 refine ⟨_,xs,e,?_,h3⟩
 match xs,us,h2 with
 | [],us,h2 =>
   simp only [aA] at h2; subst h2
   simp [vV,az,aA]
 | [x],us,h2 =>
   simp only [aA] at h2
   obtain ⟨u,_,rfl,h4,rfl⟩:=h2
   simpa [vV] using h4
 | x::y::zs,us,h2 =>
   have hl:=h2.length
   rw [dif_neg (by simp at hl ⊢; omega)]
   simp only [vV,az]
   exact ⟨us,rfl,h2⟩
theorem BQ (args:List AV) (vs:List Value) (n:Nat) (ha:aA g args vs):hY g (Env.j0 args) (vs.toArray++Array.replicate n undef):=fun t=>by
 simp only [Env.j0,Array.getD_eq_getD_getElem?,pT,Array.getElem?_append,List.size_toArray,List.getElem?_toArray]
 have hl:=ha.length
 by_cases ht:t < vs.length
 . rw [if_pos ht]
   obtain ⟨x,hx⟩:∃ x,args[t]?=some x:=⟨args[t]'(by omega),by simp⟩
   obtain ⟨v,hv,hr⟩:=ha.get hx
   rw [hx,hv]; exact hr
 . rw [if_neg ht,uE (by omega)]
   simp only [Option.getD_none]
   have:((Array.replicate n undef)[t - vs.length]?).getD undef=undef:=by
    rw [Array.getElem?_replicate]; split <;> rfl
   rw [this]; exact vo
theorem ry {fn:Func} {a:Act} {R:cR->St->Prop} (g0:Gh):∀ (ms:List Nat) (g:Gh) (w:World) (u:FrameMode),ms.Nodup->(∀ r ∈ ms,g.res r=true/\g0.res r=false)->Gh.Le g0 g->bo g U w->hY g ρ a.tmps ->
 ((u=.returning/\vS C.P ρ U fn.results.toList fun vs=>∃ x ad,mS (vV vs) U x ad/\R (.ret x) ad)\/(∃ x v,u=.panicking [{ v,recovered:=false }]/\az g x v/\R (.panic x) U)) ->
 LeavesInM Fence.wide 0 C.P fn a.tmps (pF g0 R) (ms.map GI) u w
 | [],g,w,u,_,_,hle,hs,hr,h=>by
   simp only [nu,LeavesInM]
   rcases h with ⟨rfl,h⟩ | ⟨x,v,rfl,hx,h⟩
   . obtain ⟨v,xs,iu,hv,x,ad,ht,hR⟩:=BH hs hr h
     obtain ⟨g',MB,eO,hx⟩:=ht g w v hs hv
     exact ⟨v,iu,g',ad,x,hle.trans MB,eO,hx,hR⟩
   . exact ⟨g,U,x,v,rfl,hle,hs,hx,h⟩
 | r::ms,g,w,u,hnd,zt,hle,hs,hr,h=>by
   simp only [eC,LeavesInM]
   refine ⟨by rcases h with ⟨rfl,_⟩ | ⟨_,_,rfl,_⟩ <;> simp,.inl ⟨r,{ w with heap:=w.heap.setIfInBounds r (Obj.deferred none) },rfl,?_,?_⟩⟩
   . obtain ⟨_,hh⟩:=hs.res r (zt r (by simp)).1
     simp [Instr.takeDeferred,getObj,setObj,cr,Sem.run,hh,Result.andThen]
   . have hlR:Gh.ua g { g with res:=fun x=>if x=r then false else g.res x }:=⟨fun _ _ h=>h,fun _ _ _ h=>h,fun _ _ h=>h⟩
     refine ry g0 ms { g with res:=fun x=>if x=r then false else g.res x } _ u (List.nodup_cons.1 hnd).2 (fun q hq=>?_) ?_ (hs.shut (zt r (by simp)).1) (fun t=>(hr t).fh hlR) ?_
     . refine ⟨?_,(zt q (by simp [hq])).2⟩
       show (if q=r then false else g.res q)=true
       rw [if_neg (fun e:q=r=>by subst e; exact (List.nodup_cons.1 hnd).1 hq)]
       exact (zt q (by simp [hq])).1
     . refine ⟨hle.base,hle.w0,hle.place,hle.cB,hle.ca,fun q hq=>?_,hle.zz,hle.wK⟩
       show (if q=r then false else g.res q)=true
       have cn:q ≠ r:=fun e=>by subst e; rw [(zt q (by simp)).2] at hq; cases hq
       rw [if_neg cn]
       exact hle.res q hq
     . rcases h with h | ⟨x,v,h1,h2,h3⟩
       . exact .inl h
       . exact .inr ⟨x,v,h1,h2.fh hlR,h3⟩
theorem ae.Lq {f:FuncId} {fn:Func} {c:Code} {args:List AV} {R:cR->St->Prop} (hf:C.P.funcs[f]?=some fn) (hb:fn.body=some c) (hlen:args.length <= fn.ntmps)
 (h:bH C fn.ntmps .fn c (af0 C.P fn R) (Env.j0 args) U):ae C f args U R:=by
 intro g w vs hs hG ha
 have hl:=ha.length
 refine callsIn_of_wp_marks hf hb trivial ?_
 have D4:=BQ args vs (fn.ntmps - args.length) ha
 have:=h g w { tmps:=vs.toArray++Array.replicate (fn.ntmps - vs.toArray.size) undef,defers:=[] } none hs hG (by
  have e:vs.toArray.size=args.length:=by simpa using hl
  rw [e]; exact D4) (by simp; omega) trivial
 refine wpIn_mono this ?_
 rintro e a w' ⟨k1,g',ad,er,ms,k2,k3,k4,k5,k6,k7⟩
 simp only [gy] at k2
 cases e with
 | normal =>
   show LeavesInM _ _ _ _ _ _ a.defers _ _
   rw [k2]
   exact ry g ms g' w' _ k3.nodup k3.res k4 k5 k6 (.inl ⟨rfl,k7⟩)
 | ret =>
   show LeavesInM _ _ _ _ _ _ a.defers _ _
   rw [k2]
   exact ry g ms g' w' _ k3.nodup k3.res k4 k5 k6 (.inl ⟨rfl,k7⟩)
 | panic ch =>
   obtain ⟨x,v,rfl,hx,hR⟩:=k7
   show LeavesInM _ _ _ _ _ _ a.defers _ _
   rw [k2]
   exact ry g ms g' w' _ k3.nodup k3.res k4 k5 k6 (.inr ⟨x,v,rfl,hx,hR⟩)
 | exit id=>exact k7.elim
 | goto l=>exact k7.elim
 | outgrown=>exact k7.elim
def Pure (C:cQ) (f:FuncId) (args:List AV) (x:AV):Prop:=∀ U R,R (.ret x) U->ae C f args U R
end
end Go.Rip
namespace Go.Rip
open Go.RowKit
section
variable {C:cQ} {g:Gh} {U:St} {w:World} {nt:Nat} {ro:Ro} {Q:Ex->Env->St->Prop} {ρ:Env}
def abz (o:Nat) (Q:Ex->Env->St->Prop) (ρ:Env):cR->St->Prop
 | .ret _,ad=>∃ L,ad.loop o=some L/\L.state ≠ .busy/\(match L.fZ with
   | none=>Q .normal ρ (ad.del o)
   | some .ret=>Q .ret ρ (ad.del o)
   | some (.exit id)=>Q (.exit id) ρ (ad.del o)
   | _=>False)
 | .panic x,ad=>Q (.panic x) ρ ad
theorem bo.Tn (h:bo g U w) {o:Nat} {L:fF} {p:Place} (ho:U.loop o=some L) (hp:g.place o=some p) (x:Loop) :
 bo g (U.del o) { w with heap:=w.heap.setIfInBounds p.aI (.loop x) }:=by
 obtain ⟨p',k1,k2,fn,tmps,defers,k3,_⟩:=h.live o _ (St.nU.1 ho)
 rw [hp] at k1; cases k1
 refine (h.weaken (St.uc U o)).change p.aI k2 (Gh.Le.refl g) rfl rfl ⟨rfl,rfl,rfl,by simp⟩ (fun k hk _=>Array.getElem?_setIfInBounds_ne (Ne.symm hk)) (fun _ _ _=>rfl) (fun _ _=>rfl) (fun q u hu=>?_) (fun es c hr=>?_) (fun b' x' p' h1 h2 e=>?_) (h.uG (St.nU.1 ho) hp)
 . have:=(h.cB _ _ _ hu).1; simp [World.cell?,k3] at this
 . have:=(h.ca _ _ _ hr).1; rw [k3] at this; cases this
 . simp only [St.del] at h1
   split at h1
   . cases h1
   . rename_i ne; exact ne (h.apart _ _ _ _ _ _ h1 (St.nU.1 ho) h2 hp e)
theorem bo.sx (h:bo g U w) {o:Nat} {L L':fF} {p:Place} (ho:U.loop o=some L) (hp:g.place o=some p) {fn:FuncId} {tmps:Array Value} {defers:Nat}
 (hn:tmps.size=L'.nt) (hr:∀ t,az g (L'.ρ t) (tmps.getD t undef)) :
 bo g (U.set o (.loop L')) { w with heap:=w.heap.setIfInBounds p.aI (.loop { state:=L'.state,pending:=L'.fZ,fn,tmps,params:=L'.params,assign:=L'.assign,body:=L'.body,defers }) }:=by
 obtain ⟨p',k1,k2,VO,GP,Ar,k3,_⟩:=h.live o _ (St.nU.1 ho)
 rw [hp] at k1; cases k1
 have aQ:=(lz.1 k3).1
 refine h.rewrite (St.nU.1 ho) hp ⟨rfl,rfl,rfl,by simp⟩ (fun k hk _=>Array.getElem?_setIfInBounds_ne (Ne.symm hk)) (fun q=>?_) ?_ ⟨fn,tmps,defers,by simp [aQ],hn,hr⟩
 . cases e:g.cB p.aI q with
   | none=>rfl
   | some u=>have:=(h.cB _ _ _ e).1; simp [World.cell?,k3] at this
 . cases e:g.ca p.aI with
   | none=>rfl
   | some u=>have:=(h.ca _ _ _ e).1; rw [k3] at this; cases this
theorem bH.rangeFunc (tag:Nat) {f:Operand} {ps:Array Tmp} {assign body:Code} {kM:FuncId} {first cap:List AV} (hf:ρ.ev C f=.func (.func kM) first cap) (uj:eX C.P kM=true)
 (h:∀ o,U.dD o->ae C kM (first++[.rZ o]++cap) (U.new o (.loop ⟨ρ.get,nt,ps,assign,body,.ready,none,tag⟩)) (abz o Q ρ)):bH C nt .fn (.rangeFunc f ps assign body) Q ρ U:=by
 intro g w a fr hs hG hr hn yI
 cases fr with
 | some l=>exact yI.elim
 | none =>
 have hev:=ue hG hr f
 rw [hf] at hev
 simp only [az] at hev
 obtain ⟨fs,cs,hval,OT,ui⟩:=hev
 refine wpIn_rangeFunc fun fn _=>?_
 obtain ⟨HP,zw⟩:=hs.Yj
 have hrE:=hr.mono HP
 obtain ⟨o,g2,f1,f2,f3,f4⟩:=zw.uy (.loop { state:=.ready,pending:=none,fn:=fn,tmps:=a.tmps,params:=ps,assign,body,defers:=w.heap.size }) 0 0 (.loop ⟨ρ.get,nt,ps,assign,body,.ready,none,tag⟩)
  fun g' hle _ _=>⟨fn,a.tmps,w.heap.size,heap_alloc_new _ _,hn,fun t=>(hrE t).mono hle⟩
 have uk:=HP.trans f2
 obtain ⟨Hz,hfn,V9,hng⟩:∃ Hz,C.P.funcs[kM]?=some Hz/\Hz.body.isNone=false/\(Hz.name == "runtime.NumGoroutine")=false:=by
  unfold eX at uj
  split at uj
  . rename_i Hz hfn
    simp only [bX,Bool.not_eq_true'] at uj
    exact ⟨Hz,hfn,by cases hb:Hz.body <;> simp_all,uj.2⟩
  . cases uj
 refine ⟨w.heap.size+1,[{ target:=.collected w.heap.size,args:=#[] }],((w.alloc (.deferred (some []))).alloc (.loop { state:=.ready,pending:=none,fn:=fn,tmps:=a.tmps,params:=ps,assign,body,defers:=w.heap.size })),
  { target:=.fn (.func kM) cs.toArray,args:=fs.toArray++#[.func (.yield (w.heap.size+1)) #[] #[]] },((w.alloc (.deferred (some []))).alloc (.loop { state:=.ready,pending:=none,fn:=fn,tmps:=a.tmps,params:=ps,assign,body,defers:=w.heap.size })),kM,(fs.toArray++#[.func (.yield (w.heap.size+1)) #[] #[]])++cs.toArray,((w.alloc (.deferred (some []))).alloc (.loop { state:=.ready,pending:=none,fn:=fn,tmps:=a.tmps,params:=ps,assign,body,defers:=w.heap.size })),?_,?_,fun _ _=>trivial,?_,fun hd=>by simp [FW,Fence.wide] at hd,?_⟩
 . simp only [Instr.enterLoop,FW,cr,run_newObj,cM,cJ]
   rw [Array.size_push]
   rfl
 . simp only [resolve,rangeCall,List.map_toArray,eC,nu]
   rw [hval]
   simp only [Deferred.ofValue,cM]
   rfl
 . simp only [invoke,callFunc,cr,cM,cJ,run_program,hfn,hng,V9,bU,if_false,fD]
 . have hc:=h o f1 g2 _ (fs++[Value.func (.yield (w.heap.size+1)) #[] #[]]++cs) f4 (hG.mono uk) (((OT.mono uk).append (by
    simp only [aA]
    exact ⟨_,_,rfl,by simp only [az]; exact ⟨_,f3,by simp⟩,rfl⟩)).append (ui.mono uk))
   have e:(fs++[Value.func (.yield (w.heap.size+1)) #[] #[]]++cs).toArray=fs.toArray++#[Value.func (.yield (w.heap.size+1)) #[] #[]]++cs.toArray:=by simp
   rw [e] at hc
   have uZ:CallsIn (FW none) 0 C.P kM _ _ _:=hc
   refine uZ.mono ?_
   rintro e w3 hp
   have O6:∀ g3,Gh.Le g2 g3->py false g g3 [w.heap.size]:=fun g3 hl=>⟨fun h=>(by cases h),by simp,fun r hr=>by
    simp only [jz] at hr; subst hr
    exact ⟨hl.res _ (f2.res _ (by simp)),hs.Er (cX _)⟩⟩
   cases e with
   | returned v =>
     obtain ⟨g3,bO,x,h1,h2,h3,L,h4,h5,h6⟩:=hp
     obtain ⟨p,q1,q2,VO,GP,Ar,q3,q4,q5⟩:=h2.live o _ (St.nU.1 h4)
     have mZ:g3.place o=some ⟨w.heap.size+1,0,0⟩:=h1.place _ _ (by rw [f3]; simp)
     rw [mZ] at q1; cases q1
     have wC:(getObj (w.heap.size+1)).run C.P w3=.ok (.loop { state:=L.state,pending:=L.fZ,fn:=VO,tmps:=GP,params:=L.params,assign:=L.assign,body:=L.body,defers:=Ar }) w3:=by simp [getObj,Sem.run,q3]
     have H6:∀ x,(setObj (w.heap.size+1) x).run C.P w3=.ok () { w3 with heap:=w3.heap.setIfInBounds (w.heap.size+1) x }:=fun x=>by simp [setObj,Sem.run,q3]
     have adw:(L.state == LoopState.busy)=false:=by
      cases hL:L.state <;> first
       | rfl
       | exact absurd hL h5
     have HK:(Instr.endLoop (w.heap.size+1)).run C.P w3=.ok L.fZ { w3 with heap:=w3.heap.setIfInBounds (w.heap.size+1) (.loop { state:=.exhausted,pending:=L.fZ,fn:=VO,tmps:=GP,params:=L.params,assign:=L.assign,body:=L.body,defers:=Ar }) }:=by
      simp only [Instr.endLoop,Instr.getLoop,cr,wC,cJ,cM,adw,bU,if_false,fD,H6]
     have hs3:=h2.Tn h4 mZ { state:=.exhausted,pending:=L.fZ,fn:=VO,tmps:=GP,params:=L.params,assign:=L.assign,body:=L.body,defers:=Ar }
     have post:∀ ex,Hs g3 Q ρ (bO.del o) ex->rE g nt false a.defers Q ex { a with defers:=[{ target:=.collected w.heap.size,args:=#[] }]++a.defers } _:=fun ex hq =>
      ⟨hn,g3,bO.del o,ρ,[w.heap.size],rfl,O6 g3 h1,uk.trans h1,hs3,hr.mono (uk.trans h1),hq⟩
     refine ⟨L.fZ,_,HK,?_⟩
     generalize L.fZ=fZ at h6 post ⊢
     cases fZ with
     | none=>exact post .normal h6
     | some c =>
       cases c <;> first
        | exact h6.elim
        | exact wpIn_exit (post (.exit _) h6)
        | exact wpIn_ret (post .ret h6)
   | panicked ch =>
     obtain ⟨g3,bO,x,v,rfl,h1,h2,h3,h4⟩:=hp
     exact ⟨hn,g3,bO,ρ,[w.heap.size],rfl,O6 g3 h1,uk.trans h1,h2,hr.mono (uk.trans h1),x,v,rfl,h3,h4⟩
   | outgrown=>exact hp.elim
def x9 (ρ:Nat->AV):List Tmp->List AV->Nat->AV
 | t::ts,v::vs=>x9 (fun x=>if x=t then v else ρ x) ts vs
 | _,_=>ρ
theorem IU {ρ:Nat->AV} {tmps:Array Value}:∀ (ps:List Tmp) (args:List AV) (vs:List Value) (ρ:Nat->AV) (tmps:Array Value),(∀ t,az g (ρ t) (tmps.getD t undef))->(∀ t ∈ ps,t < tmps.size)->aA g args vs ->
 ((ps.zip vs).foldl (fun (tmps:Array Value) (p:Tmp × Value)=>tmps.setIfInBounds p.1 p.2) tmps).size=tmps.size/\∀ t,az g (x9 ρ ps args t) (((ps.zip vs).foldl (fun (tmps:Array Value) (p:Tmp × Value)=>tmps.setIfInBounds p.1 p.2) tmps).getD t undef)
 | [],args,vs,ρ,tmps,h,_,_=>by simpa [x9] using h
 | t::ts,[],vs,ρ,tmps,h,_,ha=>by
   simp only [aA] at ha; subst ha
   simpa [x9] using h
 | t::ts,x::args,vs,ρ,tmps,h,hl,ha=>by
   simp only [aA] at ha
   obtain ⟨v,vs,rfl,hx,ha⟩:=ha
   simp only [List.zip_cons_cons,List.foldl_cons,x9]
   have h1:∀ t',az g ((fun y=>if y=t then x else ρ y) t') ((tmps.setIfInBounds t v).getD t' undef):=(hY.put (g:=g) (ρ:=⟨ρ⟩) h (hl t (by simp)) hx)
   obtain ⟨h2,h3⟩:=IU (ρ:=ρ) (tmps:=tmps) ts args vs _ (tmps.setIfInBounds t v) h1 (fun t' qP=>by simpa using hl t' (by simp [qP])) ha
   exact ⟨by rw [h2]; simp,h3⟩
def abA (o:Nat) (R:cR->St->Prop):Ex->Env->St->Prop
 | .normal,_,U=>∃ L,U.loop o=some L/\R (.ret (.bool true)) (U.set o (.loop { L with state:=.ready,fZ:=none }))
 | .ret,_,U=>∃ L,U.loop o=some L/\R (.ret (.bool false)) (U.set o (.loop { L with state:=.done,fZ:=some .ret }))
 | .exit id,_,U=>∃ L,U.loop o=some L/\R (.ret (.bool false)) (U.set o (.loop { L with state:=.done,fZ:=some (.exit id) }))
 | .panic _,_,_=>False
def XD (C:cQ) (o:Nat) (body:Code) (nt:Nat) (R:cR->St->Prop):Ex->Env->St->Prop
 | .normal,ρ,U=>∃ L,U.loop o=some L/\L.state=.ready/\bH C nt (.round o) body (abA o R) ρ (U.set o (.loop { L with state:=.busy }))
 | _,_,_=>False
theorem mU.IL {o:Nat} {args:List AV} {R:cR->St->Prop} {L:fF} (hL:U.loop o=some L) (hargs:args.length=L.params.size) (tA:∀ t ∈ L.params.toList,t < L.nt)
 (h:bH C L.nt (.round o) L.assign (XD C o L.body L.nt R) ⟨x9 L.ρ L.params.toList args⟩ U):mU C o args U R:=by
 intro g w vs x hs hG ha hx
 obtain ⟨p,k1,k2,fn,tmps,defers,k3,k4,k5⟩:=hs.live o _ (St.nU.1 hL)
 rw [hx] at k1; cases k1
 have wC:(getObj x.aI).run C.P w=.ok (.loop { state:=L.state,pending:=L.fZ,fn,tmps,params:=L.params,assign:=L.assign,body:=L.body,defers }) w:=by simp [getObj,Sem.run,k3]
 have eP:vs.length=L.params.size:=by rw [ha.length,hargs]
 obtain ⟨z1,z2⟩:=IU (g:=g) (ρ:=L.ρ) (tmps:=tmps) L.params.toList args vs L.ρ tmps k5 (fun t ht=>by rw [k4]; exact tA t ht) ha
 have adl:(L.params.zip vs.toArray).foldl (fun (tmps:Array Value) (p:Tmp × Value)=>tmps.setIfInBounds p.1 p.2) tmps=(L.params.toList.zip vs).foldl (fun (tmps:Array Value) (p:Tmp × Value)=>tmps.setIfInBounds p.1 p.2) tmps:=by
  rw [<- Array.foldl_toList]; congr 1; simp
 refine ⟨fn,(L.params.toList.zip vs).foldl (fun (tmps:Array Value) (p:Tmp × Value)=>tmps.setIfInBounds p.1 p.2) tmps,L.assign,L.body,?_,?_⟩
 . simp only [Instr.yield,Instr.getLoop,cr,wC,cJ,cM,List.size_toArray,eP,ne_eq,not_true_eq_false,if_false,fD]
   rw [<- adl]
 . refine roundIn_of_wpIn trivial ?_
   have h1:=h g w { tmps:=(L.params.toList.zip vs).foldl (fun (tmps:Array Value) (p:Tmp × Value)=>tmps.setIfInBounds p.1 p.2) tmps,defers:=[] } (some x.aI) hs hG z2 (by rw [<- k4]; exact z1) ⟨x,hx,rfl⟩
   have ug:L.assign.wpIn (Fence.wide.inRound x.aI) 0 C.P _ _ _:=h1
   refine wpIn_mono ug ?_
   rintro e a1 w1 ⟨q1,g1,aR,ρ1,ms,q2,q3,q4,q5,q6,q7⟩
   cases e with
   | normal =>
     obtain ⟨L1,r1,r2,r3⟩:=q7
     obtain ⟨p,k1,k2,fn,tmps,defers,k3,k4,k5⟩:=q5.live o _ (St.nU.1 r1)
     rw [q4.place _ _ hx] at k1; cases k1
     have wC:(getObj x.aI).run C.P w1=.ok (.loop { state:=L1.state,pending:=L1.fZ,fn,tmps,params:=L1.params,assign:=L1.assign,body:=L1.body,defers }) w1:=by simp [getObj,Sem.run,k3]
     have H6:∀ y,(setObj x.aI y).run C.P w1=.ok () { w1 with heap:=w1.heap.setIfInBounds x.aI y }:=fun y=>by simp [setObj,Sem.run,k3]
     have rW:=q5.sx (L':={ L1 with state:=.busy }) (fn:=fn) (defers:=defers) r1 (q4.place _ _ hx) k4 k5
     refine ⟨_,by simp only [Instr.beginRound,Instr.getLoop,cr,wC,cJ,cM,H6,r2]; rfl,?_⟩
     have h2:=r3 g1 _ a1 (some x.aI) rW (hG.mono q4) q6 q1 ⟨x,q4.place _ _ hx,rfl⟩
     have Bc:L.body.wpIn (Fence.wide.inRound x.aI) 0 C.P _ _ _:=h2
     refine wpIn_mono Bc ?_
     rintro e a2 w2 ⟨WK,g2,a7,rT,ID,q2',q3',q4',q5',q6',Lx⟩
     have Wq:=(q4.trans q4').place _ _ hx
     have fin:∀ (L2:fF) (jump:Option Code) (st:LoopState),a7.loop o=some L2->(if jump.isNone then LoopState.ready else .done)=st->R (.ret (.bool jump.isNone)) (a7.set o (.loop { L2 with state:=st,fZ:=jump })) ->
      ∃ v w',(Instr.endRound x.aI jump).run C.P w2=.ok v w'/\pF g R (.returned v) w':=fun L2 jump st hl fT hR=>by
      obtain ⟨p,k1,k2,fn,tmps,defers,k3,k4,k5⟩:=q5'.live o _ (St.nU.1 hl)
      rw [Wq] at k1; cases k1
      have wC:(getObj x.aI).run C.P w2=.ok (.loop { state:=L2.state,pending:=L2.fZ,fn,tmps,params:=L2.params,assign:=L2.assign,body:=L2.body,defers }) w2:=by simp [getObj,Sem.run,k3]
      have H6:∀ y,(setObj x.aI y).run C.P w2=.ok () { w2 with heap:=w2.heap.setIfInBounds x.aI y }:=fun y=>by simp [setObj,Sem.run,k3]
      have hs3:=q5'.sx (L':={ L2 with state:=st,fZ:=jump }) (fn:=fn) (defers:=defers) hl Wq k4 k5
      refine ⟨.bool jump.isNone,_,by simp only [Instr.endRound,Instr.getLoop,cr,wC,cJ,cM,H6,fT],g2,_,.bool jump.isNone,q4.trans q4',hs3,by simp only [az],hR⟩
     cases e with
     | normal=>obtain ⟨L2,hl,hR⟩:=Lx; exact fin L2 none .ready hl rfl hR
     | ret=>obtain ⟨L2,hl,hR⟩:=Lx; exact fin L2 (some .ret) .done hl rfl hR
     | exit id=>obtain ⟨L2,hl,hR⟩:=Lx; exact fin L2 (some (.exit id)) .done hl rfl hR
     | panic ch=>obtain ⟨x,v,_,_,hf⟩:=Lx; exact hf.elim
     | goto l=>exact Lx.elim
     | outgrown=>exact Lx.elim
   | panic ch=>obtain ⟨x,v,_,_,hf⟩:=q7; exact hf.elim
   | ret=>exact q7.elim
   | exit id=>exact q7.elim
   | goto l=>exact q7.elim
   | outgrown=>exact q7.elim
end
end Go.Rip
namespace Go.Rip
open Go.RowKit
section
variable {C:cQ} {g:Gh} {U ad:St} {w:World} {nt:Nat} {nm:Bool} {ro:Ro} {fr:Option Nat} {Q:Ex->Env->St->Prop} {ρ er:Env} {mu:Bool}
theorem ux {l:List Operand} (h:∀ x ∈ l,ρ.ev C x=er.ev C x):l.map (ρ.ev C)=l.map (er.ev C):=List.map_congr_left h
theorem yE {parts:Array (Nat × Operand)} (h:∀ x ∈ (parts.toList.map (·.2)).toArray,ρ.ev C x=er.ev C x):mY C ρ parts=mY C er parts:=by
 unfold mY
 apply List.map_congr_left
 intro p hp
 rw [h p.2 (by simp; exact ⟨p.1,by simpa using hp⟩)]
theorem PX (o:Op) (h:∀ x ∈ o.operands,ρ.ev C x=er.ev C x):j6 C mu o ρ U=j6 C mu o er U:=by
 cases o with
 | call c =>
   obtain ⟨callee,⟨args⟩,⟨Xm⟩⟩:=c
   simp only [j6,Aq]
   have ha:args.map (ρ.ev C)=args.map (er.ev C):=ux fun x hx=>h x (by simp only [Op.operands,Call.operands]; rw [Array.mem_append]; exact .inr (by simpa using hx))
   cases callee with
   | value f =>
     show iN C.P (ρ.ev C f) (args.map (ρ.ev C))=iN C.P (er.ev C f) (args.map (er.ev C))
     rw [ha,h f (by simp [Op.operands,Call.operands])]
   | invoke r m=>rfl
   | builtin b =>
     have hm:∀ x ∈ args,ρ.ev C x=er.ev C x:=fun x hx=>h x (by simp only [Op.operands,Call.operands]; rw [Array.mem_append]; exact .inr (by simpa using hx))
     split <;> simp_all
 | build t parts=>simp only [j6]; rw [yE h]
 | buildSlice t n parts=>simp only [j6]; rw [yE h]
 | makeFunc fn first cap =>
   simp only [j6]
   rw [ux (l:=first.toList) fun x hx=>h x (by simp [Op.operands]; exact .inl (by simpa using hx)),ux (l:=cap.toList) fun x hx=>h x (by simp [Op.operands]; exact .inr (by simpa using hx))]
 | slice t x lo hi m =>
   cases m with
   | some _=>rfl
   | none =>
     simp only [j6]
     have h1:=h x (by simp [Op.operands])
     have h2:lo.map (ρ.ev C)=lo.map (er.ev C):=by
      cases lo with
      | none=>rfl
      | some y=>simp only [Option.map_some]; rw [h y (by simp [Op.operands])]
     have h3:hi.map (ρ.ev C)=hi.map (er.ev C):=by
      cases hi with
      | none=>rfl
      | some y=>simp only [Option.map_some]; rw [h y (by simp [Op.operands])]
     rw [h1,h2,h3]
 | makeMap t r=>cases r <;> rfl
 | next i b=>cases b <;> simp_all [j6,Op.operands]
 | _=>simp_all [j6,Op.operands]
def eL:AV->List Nat
 | .box b _=>[b]
 | .ms b _ _ _ _=>[b]
 | .mp m=>[m]
 | .it o=>[o]
 | .vec _ (.own τ) _=>[τ]
 | _=>[]
theorem XK {b:Nat} (h:ad.live b=U.live b):ad.box b=U.box b:=by simp only [St.box,h]
theorem JL {p:AV} (h:∀ b ∈ eL p,ad.live b=U.live b):mW ad p=mW U p:=by
 cases p <;> simp only [mW]
 rw [XK (h _ (by simp [eL]))]
def quiet:Op->Bool
 | .move _ | .assign _ | .pick .. | .load .. | .build .. | .buildSlice .. | .fieldAddr .. | .field .. | .indexAddr .. | .index .. | .binOp .. | .unOp .. | .convert .. | .nilCheck _ | .lookup .. | .extract .. | .makeInterface .. | .makeFunc ..
 | .slice ..=>true
 | .call c=>match c.callee with
   | .value _=>true
   | .builtin .len | .builtin .min | .builtin .max=>true
   | _=>false
 | _=>false
def pG:Op->Bool
 | .load .. | .lookup ..=>true
 | _=>false
theorem Yw (o:Op) (hq:quiet o=true) (h:pG o=true->∀ x ∈ o.operands,∀ b ∈ eL (ρ.ev C x),ad.live b=U.live b):j6 C mu o ρ ad=j6 C mu o ρ U:=by
 cases o with
 | call c =>
   obtain ⟨callee,⟨args⟩,⟨Xm⟩⟩:=c
   simp only [j6,Aq]
   cases callee with
   | value f=>rfl
   | invoke r m=>rfl
   | builtin b =>
     cases b <;> simp only [quiet,bU] at hq
     all_goals (split <;> first
      | rfl
      | (simp only [Iu]; done)
      | contradiction
      | simp_all)
 | load t a =>
   simp only [j6,u7]
   rw [JL (h rfl a (by simp [Op.operands]))]
 | lookup t m k ok =>
   have:=h rfl m (by simp [Op.operands])
   simp only [j6,wP]
   generalize ρ.ev C m=y at this ⊢
   cases y <;> simp_all [eL,St.mp,kB]
 | slice t x lo hi m=>cases m <;> rfl
 | _=>first | rfl | simp [quiet] at hq
theorem aD.wp_mono {K K':AV->St->Prop} {Kp:AV->St->Prop} (hk:∀ v U,K v U->K' v U):∀ (r:aD) {U:St},r.wp C U K Kp->r.wp C U K' Kp
 | .val _,_,h=>hk _ _ h
 | .iH _ _ _,_,h=>hk _ _ h
 | .new _ _ _,_,h=>fun b hb=>hk _ _ (h b hb)
 | .lW _ _,_,h=>fun p hp=>hk _ _ (h p hp)
 | .enter _ _,_,h=>ae.mono h fun r U hr=>by cases r <;> first | exact hk _ _ hr | exact hr
 | .yield _ _,_,h=>mU.mono h fun r U hr=>by cases r <;> first | exact hk _ _ hr | exact hr
 | .panic _,_,h=>h
 | @aD.cond _ _ r,_,h=>⟨h.1,aD.wp_mono hk r h.2⟩
 | .bad,_,h=>h
theorem KF {x:Operand} {dst:Option Tmp} {v:AV} (h:∀ d,dst=some d->x ≠ .tmp d):(ρ.eM dst v).ev C x=ρ.ev C x:=by
 cases dst with
 | none=>rfl
 | some d =>
   cases x <;> simp only [Env.eM,Env.put,Env.ev]
   rename_i t
   rw [if_neg (fun e=>h d rfl (by rw [e]))]
theorem Lu (ops:Array Oper) (o:Oper) {dst:Option Tmp} {v:AV} (h:∀ d,dst=some d->d ∉ o.looksAt ops):j6 C mu o.op (ρ.eM dst v) U=j6 C mu o.op ρ U :=
 PX o.op fun x hx=>KF fun d hd hxd=>h d hd (by
  subst hxd
  exact List.mem_append_left _ (List.mem_filterMap.2 ⟨.tmp d,by simpa using hx,rfl⟩))
theorem E8 (ops:Array Oper) (o:Oper) {dst:Option Tmp} {v:AV} (h:∀ d,dst=some d->d ∉ o.looksAt ops):iz ops (ρ.eM dst v) o.guard=iz ops ρ o.guard:=by
 cases dst with
 | none=>rfl
 | some d =>
   have hd:=h d rfl
   unfold iz
   cases hg:o.guard with
   | none=>rfl
   | some jw =>
     obtain ⟨j,want⟩:=jw
     simp only
     cases hb:(ops[j]?).bind (·.dst) with
     | none=>rfl
     | some t =>
       have cn:t ≠ d:=fun e=>by
        subst e
        apply hd
        unfold Oper.looksAt
        rw [hg]
        simp only [hb,Option.toList_some,fS,jz,or_true]
       simp only [Env.eM,Env.put,if_neg cn]
theorem Qb {d d':Option Tmp} {v v':AV} (h:∀ t,d=some t->d' ≠ some t):(ρ.eM d v).eM d' v'=(ρ.eM d' v').eM d v:=by
 cases d <;> cases d' <;> simp only [Env.eM]
 rename_i a b
 have cn:b ≠ a:=fun e=>h a rfl (by rw [e])
 simp only [Env.put,Env.mk.injEq]
 funext t
 by_cases h1:t=b
 . subst h1; rw [if_pos rfl,if_neg cn,if_pos rfl]
 . rw [if_neg h1]
   by_cases h2:t=a
   . rw [if_pos h2,if_pos h2]
   . rw [if_neg h2,if_neg h2,if_neg h1]
def oM (mu:List Nat) (o:Oper):Bool:=match o.dst with | some d=>mu.contains d | none=>false
def lL (C:cQ) (mu:List Nat) (ops:Array Oper) (I:St->Prop) (i:Nat) (K:Env->St->Prop) (Kp:AV->St->Prop) (ρ:Env) (U:St):Prop :=
 match ops[i]? with
 | none=>K ρ U
 | some o=>aw (iz ops ρ o.guard) ((j6 C (oM mu o) o.op ρ U).wp C U (fun v ad=>I ad/\K (ρ.eM o.dst v) ad) Kp) (K (ρ.eM o.dst (.aH [])) U)
def WH (o:Oper) (k:Nat):Bool:=o.after.toList.any fun e=>Region.binds .any e && Nat.beq e.on k
def sQ (ops:Array Oper) (i:Nat):Bool:=match ops[i]? with
 | some o=>(List.range ops.size).all fun k=>Nat.beq k i || (WH o k || o.after.toList.any fun e=>Region.binds .any e && (match ops[e.on]? with | some m=>WH m k | none=>false))
 | none=>false
def Dn (ops:Array Oper) (listed:Array Bool):Prop:=∀ m o,ops[m]?=some o->listed.getD m false=true->∀ e ∈ o.after,Region.binds .any e=true->listed.getD e.on false=true
theorem IN {o:Oper} {k:Nat} (h:WH o k=true):∃ e ∈ o.after,Region.binds .any e=true/\e.on=k:=by
 unfold WH at h
 rw [List.any_eq_true] at h
 obtain ⟨e,he,hb⟩:=h
 simp only [bX] at hb
 exact ⟨e,by simpa using he,hb.1,fm hb.2⟩
theorem G3 {ops:Array Oper} {i:Nat} {listed:Array Bool} (hD:Dn ops listed) (hr:i ∈ Region.ready .any ops listed) (h:sQ ops i=true) (k:Nat) (hk:k < ops.size) (cn:k ≠ i):listed.getD k false=true:=by
 obtain ⟨_,o,ho,cm⟩:=mem_ready.1 hr
 unfold sQ at h
 rw [ho] at h
 simp only [fl,List.mem_range,jM] at h
 rcases h k hk with h | h | h
 . exact absurd (fm h) cn
 . obtain ⟨e,he,hb,CZ⟩:=IN h
   rw [<- CZ]; exact cm e he hb
 . rw [List.any_eq_true] at h
   obtain ⟨e,he,hb⟩:=h
   rw [bX] at hb
   have h1:=cm e (by simpa using he) hb.1
   have h2:=hb.2
   split at h2
   . rename_i m hm
     obtain ⟨e',mH,ff,afp⟩:=IN h2
     rw [<- afp]; exact hD _ m hm h1 e' mH ff
   . cases h2
def Gx (o:Oper):List Nat:=o.after.toList.filterMap fun e=>if Region.binds .any e=true then some e.on else none
def DA (ops:Array Oper):Nat->List Nat->List Nat
 | 0,l=>l
 | k+1,l=>DA ops k (if l.any (Nat.beq k)=true then (match ops[k]? with | some o=>Gx o++l | none=>l) else l)
def KA (ops:Array Oper) (i:Nat):Bool:=match ops[i]? with
 | some o=>let l:=DA ops ops.size (Gx o); (List.range ops.size).all fun k=>Nat.beq k i || l.any (Nat.beq k)
 | none=>false
def oV (ops:Array Oper) (i:Nat):Bool:=sQ ops i || KA ops i
theorem X9 {ops:Array Oper} {i:Nat} (h:sQ ops i=true):oV ops i=true:=by unfold oV; rw [h]; rfl
theorem EG {o:Oper} {k:Nat} (h:k ∈ Gx o):∃ e ∈ o.after,Region.binds .any e=true/\e.on=k:=by
 unfold Gx at h
 rw [List.mem_filterMap] at h
 obtain ⟨e,he,h⟩:=h
 split at h
 . rename_i hb; exact ⟨e,by simpa using he,hb,by simpa using h⟩
 . cases h
theorem Ga {ops:Array Oper} {listed:Array Bool} (hD:Dn ops listed):∀ (k:Nat) (l:List Nat),(∀ x ∈ l,listed.getD x false=true)->∀ x ∈ DA ops k l,listed.getD x false=true
 | 0,l,h,x,hx=>h x hx
 | k+1,l,h,x,hx=>by
   rw [DA] at hx
   refine Ga hD k _ (fun y hy=>?_) x hx
   split at hy
   . rename_i hk
     rw [List.any_eq_true] at hk
     obtain ⟨z,hz,Pf⟩:=hk
     obtain rfl:=fm Pf
     split at hy
     . rename_i o ho
       rw [fS] at hy
       rcases hy with hy | hy
       . obtain ⟨e,he,hb,rfl⟩:=EG hy
         exact hD _ o ho (h _ hz) e he hb
       . exact h y hy
     . exact h y hy
   . exact h y hy
theorem C6 {ops:Array Oper} {i:Nat} {listed:Array Bool} (hD:Dn ops listed) (hr:i ∈ Region.ready .any ops listed) (h:oV ops i=true) (k:Nat) (hk:k < ops.size) (cn:k ≠ i):listed.getD k false=true:=by
 unfold oV at h
 rw [jM] at h
 rcases h with h | h
 . exact G3 hD hr h k hk cn
 obtain ⟨_,o,ho,cm⟩:=mem_ready.1 hr
 unfold KA at h
 rw [ho] at h
 simp only [fl,List.mem_range,jM] at h
 rcases h k hk with h | h
 . exact absurd (fm h) cn
 . rw [List.any_eq_true] at h
   obtain ⟨z,hz,Pf⟩:=h
   obtain rfl:=fm Pf
   refine Ga hD ops.size _ (fun y hy=>?_) _ hz
   obtain ⟨e,he,hb,rfl⟩:=EG hy
   exact cm e he hb
theorem Dn.set {ops:Array Oper} {listed:Array Bool} (hD:Dn ops listed) {i:Nat} (hr:i ∈ Region.ready .any ops listed):Dn ops (listed.setIfInBounds i true):=by
 intro m o ho hl e he hb
 obtain ⟨_,oi,Wd,cm⟩:=mem_ready.1 hr
 by_cases HT:i=m
 . subst HT
   rw [Wd] at ho; cases ho
   exact getD_set_true (cm e he hb)
 . rw [getD_set_ne false HT] at hl
   exact getD_set_true (hD m o ho hl e he hb)
theorem Dn.none (ops:Array Oper) (n:Nat):Dn ops (Array.replicate n false):=by
 intro m o ho hl
 rw [Array.getD_eq_getD_getElem?,Array.getElem?_replicate] at hl
 split at hl <;> simp at hl
def Ix (ops:Array Oper) (I:St->Prop) (i:Nat) (U:St):Prop:=oV ops i=true\/I U
def mV (C:cQ) (mu:List Nat) (ops:Array Oper) (I:St->Prop) (K:Env->St->Prop) (Kp:AV->St->Prop):Nat->Array Bool->Env->St->Prop
 | 0,listed,ρ,U=>Region.ready .any ops listed=[]/\K ρ U
 | n+1,listed,ρ,U=>(Region.ready .any ops listed=[]->K ρ U)/\∀ i ∈ Region.ready .any ops listed,lL C mu ops (Ix ops I i) i (mV C mu ops I K Kp n (listed.setIfInBounds i true)) Kp ρ U
theorem LP {mu:List Nat} {ops:Array Oper} {I:St->Prop} (cK:lJ nt ops=true) (g0:Gh):∀ (fuel t:Nat) (listed:Array Bool) (g:Gh) (U:St) (w:World) (ρ:Env) (a:Act) (ds:List Deferred),Gh.Le g0 g->bo g U w->iL C g->hY g ρ a.tmps->a.tmps.size=nt->a.defers=ds ->
 mV C mu ops I (KQ Q) (yD Q) fuel listed ρ U->wpOpsIn (FW fr) 0 C.P ops (rE g0 nt nm ds Q) (Region.linearise.go .any ops fuel t listed []) a w:=by
 intro fuel
 induction fuel with
 | zero =>
   intro t listed g U w ρ a ds h0 hs hG hr hn hd h
   simp only [Region.linearise.go,List.reverse_nil,wpOpsIn]
   exact ⟨hn,g,U,ρ,[],by simpa using hd,mC _ _ _,h0,hs,hr,h.2⟩
 | succ fuel ih =>
   intro t listed g U w ρ a ds h0 hs hG hr hn hd h
   obtain ⟨h1,h2⟩:=h
   simp only [Region.linearise.go]
   change wpOpsIn (FW fr) 0 C.P ops (rE g0 nt nm ds Q) (match (Region.ready .any ops listed)[t % (Region.ready .any ops listed).length]? with
    | some i=>Region.linearise.go .any ops fuel (t / (Region.ready .any ops listed).length) (listed.setIfInBounds i true) [i]
    | none=>[].reverse) a w
   cases hi:(Region.ready .any ops listed)[t % (Region.ready .any ops listed).length]? with
   | none =>
     have D5:Region.ready .any ops listed=[]:=by
      cases hr:Region.ready .any ops listed with
      | nil=>rfl
      | cons x xs =>
        rw [hr] at hi
        have aQ:t % (x::xs).length < (x::xs).length:=Nat.mod_lt _ (by simp)
        simp at hi
        simp at aQ
        omega
     simp only [List.reverse_nil,wpOpsIn]
     exact ⟨hn,g,U,ρ,[],by simpa using hd,mC _ _ _,h0,hs,hr,h1 D5⟩
   | some i =>
     dsimp only
     rw [linearise_go_acc,List.reverse_singleton,List.singleton_append]
     simp only [wpOpsIn]
     have fT:=h2 i (gh hi)
     unfold lL at fT
     cases ho:ops[i]? with
     | none =>
       rw [ho] at fT
       exact ih _ _ g U w ρ a ds h0 hs hG hr hn hd fT
     | some o =>
       rw [ho] at fT
       dsimp only at fT ⊢
       have nQ:o ∈ ops.toList:=gh (l:=ops.toList) (i:=i) (a:=o) (by rw [lA]; exact ho)
       have HX:B7 nt o=true:=by
        unfold lJ at cK
        rw [fl] at cK
        exact cK o nQ
       have TV:∀ d,o.dst=some d->d < a.tmps.size:=fun d yH=>by
        simp only [B7,yH,bX,dS] at HX
        rw [hn]; exact HX.1
       have go:∀ g' ad w' x v,Gh.Le g g'->bo g' ad w'->az g' x v->mV C mu ops I (KQ Q) (yD Q) fuel (listed.setIfInBounds i true) (ρ.eM o.dst x) ad->wpOpsIn (FW fr) 0 C.P ops (rE g0 nt nm ds Q) (Region.linearise.go .any ops fuel (t / (Region.ready .any ops listed).length) (listed.setIfInBounds i true) []) (a.put o.dst v) w':=fun g' ad w' x v hle eO hx hk =>
        ih _ _ g' ad w' (ρ.eM o.dst x) (a.put o.dst v) ds (h0.trans hle) eO (hG.mono hle) ((hr.mono hle).eM TV hx) (by rw [(pj a o.dst v).2]; exact hn) (by rw [(pj a o.dst v).1]; exact hd) hk
       cases OX:iz ops ρ o.guard <;> rw [OX] at fT <;> simp only [aw] at fT
       rename_i b
       have hw:=Bb hr OX
       cases b
       . rw [if_neg (by rw [hw]; simp)]
         exact ⟨fun _ _=>trivial,go g U w (.aH []) undef (Gh.Le.refl g) hs vo (fT.2 rfl)⟩
       . rw [if_pos hw]
         refine qB HX hs hG hr hn (fT.1 rfl) (fun g' ad w' x v hle eO hx hk=>go g' ad w' x v hle eO hx hk.2) ?_ (ds:=ds)
         intro g' ad w' x v hle eO hx hk
         exact ⟨hn,g',ad,ρ,[],by simpa using hd,mC _ _ _,h0.trans hle,eO,hr.mono hle,x,v,rfl,hx,hk ρ⟩
theorem bH.zZ {id:Nat} {ops:Array Oper} (mu:List Nat) (I:St->Prop) (hm:C.P.follows .mixedOrders=true) (cK:lJ nt ops=true) (h:mV C mu ops I (KQ Q) (yD Q) ops.size (Array.replicate ops.size false) ρ U):bH C nt ro (.region id ops true) Q ρ U:=by
 intro g w a fr h1 h2 h3 h4 yI
 refine wpIn_region_draw fun t=>?_
 simp only [Region.schedule,hm,Bool.true_or,if_true,Region.linearise]
 have hs:=h1.grow (lj w)
 exact LP cK g ops.size t _ g U _ ρ a a.defers (Gh.Le.refl g) hs h2 h3 h4 rfl h
def aD.yv (C:cQ):aD->AV->Prop
 | .val u,v=>u=v
 | @aD.cond p _ r,v=>p/\r.yv C v
 | .enter f args,v=>Pure C f args v
 | _,_=>False
theorem aD.NU {K:AV->St->Prop} {Kp:AV->St->Prop}:∀ (r:aD) {v:AV},r.yv C v->K v U->r.wp C U K Kp
 | .val _,_,h,hk=>by simp only [aD.yv] at h; subst h; exact hk
 | @aD.cond _ _ r,_,h,hk=>⟨h.1,aD.NU r h.2 hk⟩
 | .enter _ _,_,h,hk=>h U _ hk
 | .iH _ _ _,_,h,_=>h.elim
 | .new _ _ _,_,h,_=>h.elim
 | .lW _ _,_,h,_=>h.elim
 | .yield _ _,_,h,_=>h.elim
 | .panic _,_,h,_=>h.elim
 | .bad,_,h,_=>h.elim
def cY (B:List Nat) (aq U:St):Prop:=∀ b ∈ B,U.live b=aq.live b
def Still (C:cQ) (mu:List Nat) (ops:Array Oper) (B:List Nat) (aq:St) (o:Oper) (ρ:Env) (v:AV):Prop :=
 (iz ops ρ o.guard=.bool true/\quiet o.op=true/\(pG o.op=true->∀ x ∈ o.op.operands.toList,∀ b ∈ eL (ρ.ev C x),b ∈ B)/\(j6 C (oM mu o) o.op ρ aq).yv C v)\/(iz ops ρ o.guard=.bool false/\v=.aH [])
theorem Still.put {mu:List Nat} {ops:Array Oper} {B:List Nat} {aq:St} {o:Oper} {v:AV} (h:Still C mu ops B aq o ρ v) {dst:Option Tmp} {u:AV} (hd:∀ d,dst=some d->d ∉ o.looksAt ops):Still C mu ops B aq o (ρ.eM dst u) v:=by
 unfold Still at h ⊢
 rw [E8 ops o hd,Lu ops o hd]
 rcases h with ⟨h1,h2,h3,h4⟩ | h
 . refine .inl ⟨h1,h2,fun H5 x hx b hb=>h3 H5 x hx b ?_,h4⟩
   rw [KF fun d yH hxd=>hd d yH (by
    subst hxd
    exact List.mem_append_left _ (List.mem_filterMap.2 ⟨.tmp d,hx,rfl⟩))] at hb
   exact hb
 . exact .inr h
theorem Still.step {mu:List Nat} {ops:Array Oper} {B:List Nat} {aq:St} {o:Oper} {v:AV} {i:Nat} {K:Env->St->Prop} {Kp:AV->St->Prop} (hi:ops[i]?=some o) (h:Still C mu ops B aq o ρ v) (hI:cY B aq U) {I':St->Prop} (CP:I' U) (hk:K (ρ.eM o.dst v) U) :
 lL C mu ops I' i K Kp ρ U:=by
 unfold lL
 rw [hi]
 dsimp only
 rcases h with ⟨h1,h2,h3,h4⟩ | ⟨h1,rfl⟩
 . rw [h1]
   refine ⟨fun _=>?_,fun h=>by cases h⟩
   have e:=Yw (C:=C) (ρ:=ρ) (mu:=oM mu o) (ad:=U) (U:=aq) o.op h2 (fun H5 x hx b hb=>hI b (h3 H5 x (by simpa using hx) b hb))
   rw [e]
   exact aD.NU _ h4 ⟨CP,hk⟩
 . rw [h1]
   exact ⟨fun h=>(by cases h),fun _=>hk⟩
theorem Dz {mu:List Nat} {ops:Array Oper} {I:St->Prop} {i:Nat} {K K':Env->St->Prop} {Kp:AV->St->Prop} (hI:I U) (hk:∀ ρ U,I U->K ρ U->K' ρ U) (h:lL C mu ops I i K Kp ρ U):lL C mu ops I i K' Kp ρ U:=by
 unfold lL at h ⊢
 split
 . rename_i ho; rw [ho] at h; exact hk _ _ hI h
 . rename_i o ho
   rw [ho] at h
   dsimp only at h
   cases hg:iz ops ρ o.guard <;> rw [hg] at h <;> simp only [aw] at h ⊢
   exact ⟨fun e=>aD.wp_mono (fun v U hv=>⟨hv.1,hk _ _ hv.1 hv.2⟩) _ (h.1 e),fun e=>hk _ _ hI (h.2 e)⟩
theorem Cw {mu:List Nat} {ops:Array Oper} {B:List Nat} {aq:St} {K:Env->St->Prop} {Kp:AV->St->Prop} {i:Nat} {oi:Oper} {v:AV} (hi:ops[i]?=some oi) :
 ∀ (fuel:Nat) (listed:Array Bool) (ρ:Env) (U:St),
  (∀ j oj,ops[j]?=some oj->j ≠ i->listed.getD j true=false->(∀ e ∈ oj.after,Region.binds .any e=true->e.on ≠ i)->oi.apart ops oj=true) ->
  i ∈ Region.ready .any ops listed->Dn ops listed->Still C mu ops B aq oi ρ v->cY B aq U ->
  mV C mu ops (cY B aq) K Kp fuel (listed.setIfInBounds i true) (ρ.eM oi.dst v) U->mV C mu ops (cY B aq) K Kp (fuel+1) listed ρ U:=by
 intro fuel
 induction fuel with
 | zero =>
   intro listed ρ U _ hr hD hy hI H
   refine ⟨fun h=>(by rw [h] at hr; cases hr),fun j hj=>?_⟩
   by_cases wE:j=i
   . subst wE; exact hy.step hi hI (.inr hI) H
   . have:=ready_mono hj wE
     rw [H.1] at this
     cases this
 | succ fuel ih =>
   intro listed ρ U GC hr hD hy hI H
   refine ⟨fun h=>(by rw [h] at hr; cases hr),fun j hj=>?_⟩
   by_cases wE:j=i
   . subst wE; exact hy.step hi hI (.inr hI) H
   . have h1:=H.2 j (ready_mono hj wE)
     obtain ⟨aa5,oj,pa,cm⟩:=mem_ready.1 hj
     have HW:∀ e ∈ oj.after,Region.binds .any e=true->e.on ≠ i:=fun e he hb heq=>by
      have h1:=cm e he hb
      have h0:=(mem_ready.1 hr).1
      rw [heq] at h1
      rcases jL i listed.size with h' | h'
      . simp [h'] at h0 h1; rw [h0] at h1; cases h1
      . simp [yc h'] at h1
     obtain ⟨a1,a2,a3⟩:=Oper.apart_spec (GC j oj pa wE aa5 HW)
     have aa3:∀ k ok,ops[k]?=some ok->k ≠ i->(listed.setIfInBounds j true).getD k true=false ->
      (∀ e ∈ ok.after,Region.binds .any e=true->e.on ≠ i)->oi.apart ops ok=true:=fun k ok hk KU hun jt=>by
      refine GC k ok hk KU ?_ jt
      by_cases hjk:j=k
      . subst hjk; exact aa5
      . rw [getD_set_ne true hjk] at hun; exact hun
     have O7:¬ oV ops j=true:=fun adr=>by
      have h1:=C6 hD hj adr i (lz.1 hi).1 (Ne.symm wE)
      have h0:=(mem_ready.1 hr).1
      rcases jL i listed.size with h' | h'
      . simp [h'] at h0 h1; rw [h0] at h1; cases h1
      . simp [yc h'] at h1
     have next:∀ (u:AV) (ad:St),cY B aq ad->mV C mu ops (cY B aq) K Kp fuel ((listed.setIfInBounds i true).setIfInBounds j true) ((ρ.eM oi.dst v).eM oj.dst u) ad ->
      mV C mu ops (cY B aq) K Kp (fuel+1) (listed.setIfInBounds j true) (ρ.eM oj.dst u) ad:=fun u ad CP hA=>by
      refine ih (listed.setIfInBounds j true) (ρ.eM oj.dst u) ad aa3 (ready_mono hr (Ne.symm wE)) (hD.set hj) (hy.put a3) CP ?_
      rw [Array.setIfInBounds_comm _ _ wE,<- Qb (d:=oi.dst) (d':=oj.dst) (fun t ht=>a2 t ht)]
      exact hA
     unfold lL at h1 ⊢
     rw [pa] at h1 ⊢
     dsimp only at h1 ⊢
     rw [E8 ops oj a1,Lu ops oj a1] at h1
     cases hg:iz ops ρ oj.guard <;> rw [hg] at h1 <;> simp only [aw] at h1 ⊢
     exact ⟨fun e=>aD.wp_mono (fun u ad hu=>⟨hu.1,next u ad (hu.1.resolve_left O7) hu.2⟩) _ (h1.1 e),fun e=>next _ U hI (h1.2 e)⟩
def iV (ops:Array Oper):List (Bool × Nat)->Array Bool->Bool
 | [],listed=>(Region.ready .any ops listed).isEmpty
 | (true,i)::r,listed=>(Region.ready .any ops listed).contains i && Region.free .any ops listed i && iV ops r (listed.setIfInBounds i true)
 | (false,i)::r,listed=>(Region.ready .any ops listed == [i]) && iV ops r (listed.setIfInBounds i true)
def mh (C:cQ) (mu:List Nat) (ops:Array Oper) (B:List Nat) (aq:St) (K:Env->St->Prop) (Kp:AV->St->Prop):List (Bool × Nat)->Env->St->Prop
 | [],ρ,U=>K ρ U
 | (true,i)::r,ρ,U=>∃ o v,ops[i]?=some o/\Still C mu ops B aq o ρ v/\mh C mu ops B aq K Kp r (ρ.eM o.dst v) U
 | (false,i)::r,ρ,U=>lL C mu ops (Ix ops (cY B aq) i) i (mh C mu ops B aq K Kp r) Kp ρ U
theorem UF {ops:Array Oper} {i:Nat} {listed:Array Bool} (hD:Dn ops listed) (hi:i ∈ Region.ready .any ops listed) (ha:oV ops i=true):∀ {r:List (Bool × Nat)},iV ops r (listed.setIfInBounds i true)=true->r=[]
 | [],_=>rfl
 | (b,k)::r,h=>by
   exfalso
   have hk:k ∈ Region.ready .any ops (listed.setIfInBounds i true):=by
    cases b with
    | true=>simp only [iV,bX] at h; simpa using h.1.1
    | false=>simp only [iV,bX,beq_iff_eq] at h; rw [h.1]; simp
   obtain ⟨h0,ok,cK,_⟩:=mem_ready.1 hk
   have zq:=(mem_ready.1 hi).1
   have cn:k ≠ i:=fun e=>by
    subst e
    have aQ:k < listed.size:=by
     rcases jL k listed.size with h | h
     . exact h
     . simp [yc h] at zq
    simp [aQ] at h0
   have h1:=C6 hD hi ha k (lz.1 cK).1 cn
   rw [getD_set_ne true (Ne.symm cn)] at h0
   rcases jL k listed.size with h' | h'
   . simp [h'] at h0 h1; rw [h0] at h1; cases h1
   . simp [yc h'] at h1
theorem sY {mu:List Nat} {ops:Array Oper} {B:List Nat} {aq:St} {K:Env->St->Prop} {Kp:AV->St->Prop}:∀ (dt:List (Bool × Nat)) (listed:Array Bool) (ρ:Env) (U:St),iV ops dt listed=true->Dn ops listed->(dt=[]\/cY B aq U)->mh C mu ops B aq K Kp dt ρ U ->
 mV C mu ops (cY B aq) K Kp dt.length listed ρ U
 | [],listed,ρ,U,hp,hD,hI,h=>⟨by simpa [iV] using hp,h⟩
 | (true,i)::r,listed,ρ,U,hp,hD,hI,h=>by
   have hI:=hI.resolve_left (by simp)
   simp only [iV,bX] at hp
   obtain ⟨o,v,ho,fT,hr⟩:=h
   exact Cw ho r.length listed ρ U (Region.free_spec ho hp.1.2) (by simpa using hp.1.1) hD fT hI (sY r _ _ U hp.2 (hD.set (by simpa using hp.1.1)) (.inr hI) hr)
 | (false,i)::r,listed,ρ,U,hp,hD,hI,h=>by
   have hS:=hI.resolve_left (by simp)
   simp only [iV,bX,beq_iff_eq] at hp
   refine ⟨fun h0=>(by rw [hp.1] at h0; cases h0),fun j hj=>?_⟩
   have Fe:=hj
   rw [hp.1,jz] at hj
   subst hj
   exact Dz (.inr hS) (fun er ad CP hr=>sY r _ er ad hp.2 (hD.set Fe) (CP.elim (fun ha=>.inl (UF hD Fe ha hp.2)) .inr) hr) h
theorem bH.tQ {id:Nat} {ops:Array Oper} (mu:List Nat) (B:List Nat) (dt:List (Bool × Nat)) (hm:C.P.follows .mixedOrders=true) (cK:lJ nt ops=true) (hp:(iV ops dt (Array.replicate ops.size false) && (dt.length == ops.size))=true)
 (h:mh C mu ops B U (KQ Q) (yD Q) dt ρ U):bH C nt ro (.region id ops true) Q ρ U:=by
 simp only [bX,beq_iff_eq] at hp
 refine bH.zZ mu (cY B U) hm cK ?_
 have:=sY dt _ ρ U hp.1 (Dn.none _ _) (.inr fun _ _=>rfl) h
 rw [hp.2] at this
 exact this
theorem aD.Cs {K:AV->St->Prop} {Kp yC:AV->St->Prop} (hp:∀ v U,Kp v U->yC v U):∀ (r:aD) {U:St},r.wp C U K Kp->r.wp C U K yC
 | .val _,_,h=>h
 | .iH _ _ _,_,h=>h
 | .new _ _ _,_,h=>h
 | .lW _ _,_,h=>h
 | .enter _ _,_,h=>ae.mono h fun r U hr=>by cases r <;> first | exact hr | exact hp _ _ hr
 | .yield _ _,_,h=>mU.mono h fun r U hr=>by cases r <;> first | exact hr | exact hp _ _ hr
 | .panic _,_,h=>hp _ _ h
 | @aD.cond _ _ r,_,h=>⟨h.1,aD.Cs hp r h.2⟩
 | .bad,_,h=>h
theorem jW {mu:List Nat} {ops:Array Oper} {B:List Nat} {aq:St} {K K':Env->St->Prop} {Kp yC:AV->St->Prop} (hk:∀ ρ U,K ρ U->K' ρ U) (hp:∀ v U,Kp v U->yC v U):∀ (l:List (Bool × Nat)) {ρ:Env} {U:St},mh C mu ops B aq K Kp l ρ U->mh C mu ops B aq K' yC l ρ U
 | [],_,_,h=>hk _ _ h
 | (true,i)::r,ρ,U,h=>by
   obtain ⟨o,v,h1,h2,h3⟩:=h
   exact ⟨o,v,h1,h2,jW hk hp r h3⟩
 | (false,i)::r,ρ,U,h=>by
   simp only [mh,lL] at h ⊢
   split
   . rename_i ho; rw [ho] at h; exact jW hk hp r h
   . rename_i o ho
     rw [ho] at h
     dsimp only at h
     cases hg:iz ops ρ o.guard <;> rw [hg] at h <;> simp only [aw] at h ⊢
     exact ⟨fun e=>aD.wp_mono (fun v U hv=>⟨hv.1,jW hk hp r hv.2⟩) _ (aD.Cs hp _ (h.1 e)),fun e=>jW hk hp r (h.2 e)⟩
end
end Go.Rip
namespace Go.Rip
open Go.RowKit
def rv (kk:IntKind) (a:Int) (v:AV) (kv:List AV × List AV):List AV × List AV:=gS (.int kk a) v kv.1 kv.2
theorem u4 (kk:IntKind) (a b:Int):jS (.int kk a) (.int kk b)=decide (a < b):=by simp [jS]
def yV (kk:IntKind) (kv:List AV × List AV):Prop:=kv.1.length=kv.2.length/\∀ y ∈ kv.1,∃ n,y=.int kk n
theorem Ii (k v:AV):∀ ks vs:List AV,ks.length=vs.length->(gS k v ks vs).1.length=(gS k v ks vs).2.length
 | [],[],_=>rfl
 | y::ys,w::ws,h=>by
   simp only [gS]
   split
   . simpa using h
   . simpa using Ii k v ys ws (by simpa using h)
 | [],_::_,h=>by simp at h
 | _::_,[],h=>by simp at h
theorem La {kk:IntKind} {a:Int} {v:AV} {kv:List AV × List AV} (h:yV kk kv):yV kk (rv kk a v kv) :=
 ⟨Ii _ _ _ _ h.1,fun y hy=>by
   rcases xG _ _ y hy with rfl | hy
   . exact ⟨a,rfl⟩
   . exact h.2 y hy⟩
theorem Ft {kk:IntKind} {a b:Int} {v w:AV} (KM:a ≠ b):∀ ks vs:List AV,ks.length=vs.length->(∀ y ∈ ks,∃ n,y=.int kk n) ->
 gS (.int kk a) v (gS (.int kk b) w ks vs).1 (gS (.int kk b) w ks vs).2=gS (.int kk b) w (gS (.int kk a) v ks vs).1 (gS (.int kk a) v ks vs).2
 | [],[],_,_=>by
   simp only [gS,u4]
   by_cases h:a < b
   . have:¬ b < a:=by omega
     simp [h,this]
   . have:b < a:=by omega
     simp [h,this]
 | y::ys,x::xs,h,hy=>by
   obtain ⟨n,rfl⟩:=hy _ (List.mem_cons_self ..)
   have ih:=Ft (v:=v) (w:=w) KM ys xs (by simpa using h) (fun y hm=>hy y (by simp [hm]))
   simp only [gS,u4]
   by_cases h1:a < n <;> by_cases h2:b < n <;> by_cases h3:a < b
   all_goals (have h4:b < a\/¬ b < a:=by omega)
   all_goals (rcases h4 with h4 | h4 <;> simp only [h1,h2,h3,h4,du,eB,if_true,if_false,bU,gS,u4] <;> first | omega | (simp only [ih]; done) | rfl | (simp [gS,u4,h1,h2,h3,h4,ih]; done))
 | [],_::_,h,_=>by simp at h
 | _::_,[],h,_=>by simp at h
theorem Pj {kk:IntKind} {a b:Int} {v w:AV} (KM:a ≠ b) {kv:List AV × List AV} (h:yV kk kv):rv kk a v (rv kk b w kv)=rv kk b w (rv kk a v kv):=Ft KM kv.1 kv.2 h.1 h.2
structure vB where
 i:Nat
 key:Int
 val:AV
def p8 (kk:IntKind) (l:List vB) (kv:List AV × List AV):List AV × List AV:=l.foldl (fun kv x=>rv kk x.key x.val kv) kv
theorem zA {kk:IntKind}:∀ (sk:List vB) (x:vB) (sn:List vB) {kv:List AV × List AV},yV kk kv->(∀ y ∈ sk,y.key ≠ x.key)->p8 kk (sk++x::sn) kv=p8 kk (sk++sn) (rv kk x.key x.val kv)
 | [],x,sn,_,_,_=>rfl
 | y::sk,x,sn,kv,h,hk=>by
   show p8 kk (sk++x::sn) (rv kk y.key y.val kv)=p8 kk (sk++sn) (rv kk y.key y.val (rv kk x.key x.val kv))
   rw [zA sk x sn (La h) (fun z hz=>hk z (by simp [hz])),Pj (hk y (by simp)).symm h]
theorem Hv {kk:IntKind} {a:Int}:∀ (ks:List AV) (i:Nat),(∀ y ∈ ks,∃ n,y=.int kk n/\n ≠ a)->lY .i (.int kk a) ks i=some none
 | [],_,_=>rfl
 | y::ys,i,h=>by
   obtain ⟨n,rfl,hn⟩:=h _ (List.mem_cons_self ..)
   have cn:(a == n)=false:=by simpa using Ne.symm hn
   simp only [lY,iw,if_true,cn,bU,if_false]
   exact Hv ys (i+1) fun y hy=>h y (by simp [hy])
theorem set_set (U:St) (b:Nat) (x y:Live):(U.set b x).set b y=U.set b y:=by
 simp only [St.set,St.mk.injEq,and_true]; funext q; split <;> rfl
theorem abk (U:St) (b:Nat) (ks vs:List AV):(U.set b (.mp ks vs)).mp b=some (ks,vs):=by simp [St.mp,St.set]
section
variable {C:cQ} {mu:List Nat} {ops:Array Oper} {B:List Nat} {aq:St} {K:Env->St->Prop} {Kp:AV->St->Prop}
def acB (C:cQ) (ops:Array Oper) (ρ:Env) (t:TypeId) (m:Nat) (kk:IntKind) (listed:Array Bool) (x:vB):Prop:=∃ o v,ops[x.i]?=some o/\o.op=.insert t (.tmp m) (.const (.int kk x.key)) v/\o.dst=none/\o.guard=none/\ρ.ev C v=x.val /\
 ∀ e ∈ o.after,Region.binds .any e=true->listed.getD e.on false=true
def Y1 (ops:Array Oper) (listed:Array Bool) (l:List vB):Prop:=∀ j o,ops[j]?=some o->listed.getD j true=false->(∃ x ∈ l,x.i=j)\/∀ x ∈ l,∃ e ∈ o.after,Region.binds .any e=true/\e.on=x.i
theorem XY {t:TypeId} {m:Nat} {kk:IntKind} {e:TypeId} (ht:rA C.P t=some (.i,e)) {id:Nat} {ρ:Env} (hm:ρ.get m=.mp id) (hB:id ∉ B) (mm:Nat):∀ (n:Nat) (l:List vB) (listed:Array Bool) (U:St) (kv:List AV × List AV),l.length=n ->
 (∀ x ∈ l,listed.getD x.i true=false)->Y1 ops listed l->l.Pairwise (fun x y=>x.i ≠ y.i/\x.key ≠ y.key)->(∀ x ∈ l,acB C ops ρ t m kk listed x)->cY B aq U->yV kk kv ->
 (∀ x ∈ l,.int kk x.key ∉ kv.1)->(∀ nj:Array Bool,nj.size=listed.size->(∀ j,nj.getD j true=false ↔ listed.getD j true=false/\¬ ∃ x ∈ l,x.i=j)->mV C mu ops (cY B aq) K Kp mm nj ρ (U.set id (.mp (p8 kk l kv).1 (p8 kk l kv).2))) ->
 mV C mu ops (cY B aq) K Kp (n+mm) listed ρ (U.set id (.mp kv.1 kv.2)):=by
 intro n
 induction n with
 | zero =>
   intro l listed U kv hl CU wy hp cK hI Bk jt hK
   obtain rfl:l=[]:=List.eq_nil_of_length_eq_zero hl
   rw [cU]
   exact hK listed rfl fun j=>by simp
 | succ n ih =>
   intro l listed U kv hl CU wy hp cK hI Bk jt hK
   have H4:∀ x ∈ l,x.i ∈ Region.ready .any ops listed:=fun x hx=>by
    obtain ⟨o,v,h1,_,_,_,_,h6⟩:=cK x hx
    exact mem_ready.2 ⟨CU x hx,o,h1,h6⟩
   rw [show n+1+mm=(n+mm)+1 by omega]
   refine ⟨fun h=>?_,fun j hj=>?_⟩
   . obtain ⟨x,l',rfl⟩:∃ x l',l=x::l':=by cases l with | nil=>simp at hl | cons x l'=>exact ⟨x,l',rfl⟩
     have:=H4 x (by simp)
     rw [h] at this; cases this
   . obtain ⟨x,hx,rfl⟩:∃ x ∈ l,x.i=j:=by
      obtain ⟨h0,oj,pa,cm⟩:=mem_ready.1 hj
      rcases wy j oj pa h0 with h | h
      . exact h
      . exfalso
        obtain ⟨x,l',rfl⟩:∃ x l',l=x::l':=by cases l with | nil=>simp at hl | cons x l'=>exact ⟨x,l',rfl⟩
        obtain ⟨ed,he,hb,CZ⟩:=h x (by simp)
        have k1:=cm ed he hb
        rw [CZ] at k1
        have k2:=CU x (by simp)
        rcases jL x.i listed.size with h' | h'
        . simp [h'] at k1 k2; rw [k2] at k1; cases k1
        . simp [yc h'] at k1
     obtain ⟨o,v,h1,h2,h3,h4,h5,h6⟩:=cK x hx
     obtain ⟨sk,sn,rfl⟩:=List.append_of_mem hx
     have hpa:=hp
     rw [List.pairwise_append] at hp
     obtain ⟨p1,p2,p3⟩:=hp
     rw [List.pairwise_cons] at p2
     have MA:lY .i (.int kk x.key) kv.1 0=some none:=Hv _ _ fun y hy=>by
      obtain ⟨n,rfl⟩:=Bk.2 y hy
      exact ⟨n,rfl,fun e=>jt x hx (by rw [<- e]; exact hy)⟩
     unfold lL
     rw [h1]
     dsimp only
     rw [h4,h2,h3]
     refine ⟨fun _=>?_,fun h=>by cases h⟩
     have hop:j6 C (oM mu o) (.insert t (.tmp m) (.const (.int kk x.key)) v) ρ (U.set id (.mp kv.1 kv.2))=.iH (.aH []) id (.mp (rv kk x.key x.val kv).1 (rv kk x.key x.val kv).2):=by
      show rB C.P t (ρ.ev C (.tmp m)) (ρ.ev C (.const (.int kk x.key))) (ρ.ev C v) _=_
      rw [h5,show ρ.ev C (.tmp m)=.mp id from hm,show ρ.ev C (.const (.int kk x.key))=.int kk x.key from rfl]
      simp only [rB,ht,abk,MA,qk,rv]
     rw [hop]
     refine ⟨.inr fun b hb=>?_,?_⟩
     . have cn:b ≠ id:=fun e=>hB (e ▸ hb)
       rw [set_set]
       simp only [St.set,if_neg cn]
       exact hI b hb
     . show mV C mu ops (cY B aq) K Kp (n+mm) (listed.setIfInBounds x.i true) ρ _
       rw [set_set]
       have aQ:x.i < listed.size:=by
        have h0:=CU x hx
        rcases jL x.i listed.size with h | h
        . exact h
        . simp [yc h] at h0
       have Wm:(listed.setIfInBounds x.i true).getD x.i true=true:=by simp [aQ]
       have D7:∀ y ∈ sk++sn,y ∈ sk++x::sn:=fun y hy=>by
        simp only [fS,cD] at hy ⊢
        rcases hy with hy | hy
        . exact .inl hy
        . exact .inr (.inr hy)
       have cn:∀ y ∈ sk++sn,x.i ≠ y.i:=fun y hy=>by
        rcases fS.1 hy with hy | hy
        . exact (p3 y hy x (by simp)).1.symm
        . exact (p2.1 y hy).1
       refine ih (sk++sn) (listed.setIfInBounds x.i true) U (rv kk x.key x.val kv) ?_ ?_ ?_ ?_ ?_ hI (La Bk) ?_ ?_
       . simp at hl ⊢; omega
       . intro y hy
         rw [getD_set_ne true (cn y hy)]
         exact CU y (D7 y hy)
       . intro j oj pa h0
         have hjx:x.i ≠ j:=fun e=>by subst e; rw [Wm] at h0; cases h0
         rw [getD_set_ne true hjx] at h0
         rcases wy j oj pa h0 with ⟨y,hy,rfl⟩ | h
         . left
           refine ⟨y,?_,rfl⟩
           simp only [fS,cD] at hy ⊢
           rcases hy with hy | rfl | hy
           . exact .inl hy
           . exact absurd rfl hjx
           . exact .inr hy
         . right
           exact fun y hy=>h y (D7 y hy)
       . rw [List.pairwise_append]
         exact ⟨p1,p2.2,fun y hy z hz=>p3 y hy z (by simp [hz])⟩
       . intro y hy
         obtain ⟨o',v',q1,q2,q3,q4,q5,q6⟩:=cK y (by simp only [fS,cD] at hy ⊢; rcases hy with hy | hy; exact .inl hy; exact .inr (.inr hy))
         exact ⟨o',v',q1,q2,q3,q4,q5,fun ed he hb=>getD_set_true (q6 ed he hb)⟩
       . intro y hy nQ
         rcases xG _ _ _ nQ with e | e
         . simp only [AV.int.injEq,true_and] at e
           rcases fS.1 hy with hy | hy
           . exact (p3 y hy x (by simp)).2 e
           . exact (p2.1 y hy).2 e.symm
         . exact jt y (by simp only [fS,cD] at hy ⊢; rcases hy with hy | hy; exact .inl hy; exact .inr (.inr hy)) e
       . rw [<- zA sk x sn Bk (fun y hy=>(p3 y hy x (by simp)).2)]
         intro nj eO u3
         refine hK nj (by rw [eO]; simp) fun j=>?_
         rw [u3 j]
         by_cases e:x.i=j
         . subst e
           rw [Wm]
           constructor
           . rintro ⟨h,_⟩; cases h
           . rintro ⟨_,h⟩; exact absurd ⟨x,by simp,rfl⟩ h
         . rw [getD_set_ne true e]
           refine and_congr_right fun _=>not_congr ?_
           constructor
           . rintro ⟨y,hy,rfl⟩; exact ⟨y,D7 y hy,rfl⟩
           . rintro ⟨y,hy,rfl⟩
             refine ⟨y,?_,rfl⟩
             simp only [fS,cD] at hy ⊢
             rcases hy with hy | rfl | hy
             . exact .inl hy
             . exact absurd rfl e
             . exact .inr hy
def ph (ops:Array Oper):List (Bool × Nat)->Array Bool->Option (Array Bool)
 | [],listed=>some listed
 | (true,i)::r,listed=>cond ((Region.ready .any ops listed).contains i && Region.free .any ops listed i) (ph ops r (listed.setIfInBounds i true)) none
 | (false,i)::r,listed=>cond (Region.ready .any ops listed == [i] && !oV ops i) (ph ops r (listed.setIfInBounds i true)) none
theorem xY {m:Nat} {rj:Array Bool} {K0:Env->St->Prop} (HK:∀ ρ U,Dn ops rj->cY B aq U->K0 ρ U->mV C mu ops (cY B aq) K Kp m rj ρ U):∀ (dt:List (Bool × Nat)) (listed:Array Bool) (ρ:Env) (U:St),ph ops dt listed=some rj->Dn ops listed->cY B aq U->mh C mu ops B aq K0 Kp dt ρ U ->
 mV C mu ops (cY B aq) K Kp (dt.length+m) listed ρ U
 | [],listed,ρ,U,hp,hD,hI,h=>by
   simp only [ph,ja] at hp
   subst hp
   simpa using HK ρ U hD hI h
 | (true,i)::r,listed,ρ,U,hp,hD,hI,h=>by
   simp only [ph] at hp
   cases hc:((Region.ready .any ops listed).contains i && Region.free .any ops listed i) with
   | false=>rw [hc] at hp; cases hp
   | true =>
     rw [hc] at hp
     simp only [bX] at hc
     obtain ⟨o,v,ho,fT,hr⟩:=h
     have:=Cw ho (r.length+m) listed ρ U (Region.free_spec ho hc.2) (by simpa using hc.1) hD fT hI (xY HK r _ _ U hp (hD.set (by simpa using hc.1)) hI hr)
     rw [show ((true,i)::r).length+m=r.length+m+1 by simp; omega]
     exact this
 | (false,i)::r,listed,ρ,U,hp,hD,hI,h=>by
   simp only [ph] at hp
   cases hc:(Region.ready .any ops listed == [i] && !oV ops i) with
   | false=>rw [hc] at hp; cases hp
   | true =>
     rw [hc] at hp
     simp only [bX,beq_iff_eq,Bool.not_eq_true'] at hc
     obtain ⟨hc,O7⟩:=hc
     rw [show ((false,i)::r).length+m=r.length+m+1 by simp; omega]
     refine ⟨fun h0=>(by rw [hc] at h0; cases h0),fun j hj=>?_⟩
     have Fe:=hj
     rw [hc,jz] at hj
     subst hj
     exact Dz (.inr hI) (fun er ad CP hr=>xY HK r _ er ad hp (hD.set Fe) (CP.resolve_left (by rw [O7]; simp)) hr) h
structure oH where
 t:TypeId
 m:Nat
 kk:IntKind
 l:List Nat
def MK (I:oH) (o:Oper):Option (Int × Operand):=match o.op,o.dst,o.guard with
 | .insert t (.tmp m) (.const (.int kk a)) v,none,none=>cond (Nat.beq t I.t && (Nat.beq m I.m && decide (kk=I.kk))) (some (a,v)) none
 | _,_,_=>none
def nf (ops:Array Oper) (I:oH) (i:Nat):Option (Int × Operand):=(ops[i]?).bind (MK I)
def Gw (listed:Array Bool) (o:Oper):Bool:=o.after.toList.all fun e=>!Region.binds .any e || listed.getD e.on false
def DU (ops:Array Oper) (I:oH) (listed:Array Bool):Bool:=(List.range ops.size).all fun j=>listed.getD j true || (I.l.contains j || (match ops[j]? with
 | some o=>I.l.all fun i=>o.after.toList.any fun e=>Region.binds .any e && Nat.beq e.on i
 | none=>true))
def qQ (ops:Array Oper) (I:oH) (listed:Array Bool):Bool :=
 DU ops I listed && (I.l.all (fun i=>!listed.getD i true) && (Nat.beq listed.size ops.size && (I.l.all (fun i=>Nat.blt i ops.size && ((nf ops I i).isSome && (match ops[i]? with | some o=>Gw listed o | none=>false)))
  && (decide I.l.Nodup && decide (I.l.map fun i=>((nf ops I i).map (·.1)).getD 0).Nodup))))
def gP (listed:Array Bool) (l:List Nat):Array Bool:=l.foldl (fun a i=>a.setIfInBounds i true) listed
theorem vT:∀ (l:List Nat) (a:Array Bool),(gP a l).size=a.size
 | [],_=>rfl
 | i::l,a=>by
   show (gP (a.setIfInBounds i true) l).size=_
   rw [vT l]; simp
theorem yh:∀ (l:List Nat) (a:Array Bool) (j:Nat),(gP a l).getD j true=false ↔ a.getD j true=false/\j ∉ l
 | [],_,_=>by simp [gP]
 | i::l,a,j=>by
   show (gP (a.setIfInBounds i true) l).getD j true=false ↔ _
   rw [yh l]
   by_cases e:i=j
   . subst e
     have:(a.setIfInBounds i true).getD i true=true:=by
      by_cases h:i < a.size
      . simp [h]
      . simp [yc (Nat.le_of_not_lt h)]
     rw [this]; simp
   . rw [getD_set_ne true e]; simp [Ne.symm e]
def oC (C:cQ) (ops:Array Oper) (ρ:Env) (I:oH):List vB:=I.l.filterMap fun i=>(nf ops I i).map fun p=>⟨i,p.1,ρ.ev C p.2⟩
def MJ (C:cQ) (ops:Array Oper) (B:List Nat) (I:oH) (K:Env->St->Prop) (ρ:Env) (U:St):Prop :=
 ∃ id,ρ.get I.m=.mp id/\U.mp id=some ([],[])/\id ∉ B/\K ρ (U.set id (.mp (p8 I.kk (oC C ops ρ I) ([],[])).1 (p8 I.kk (oC C ops ρ I) ([],[])).2))
theorem ML {I:oH} {o:Oper} {a:Int} {v:Operand} (h:MK I o=some (a,v)):o.op=.insert I.t (.tmp I.m) (.const (.int I.kk a)) v/\o.dst=none/\o.guard=none:=by
 unfold MK at h
 split at h
 . rename_i t m kk a' v' h1 h2 h3
   cases hc:(Nat.beq t I.t && (Nat.beq m I.m && decide (kk=I.kk))) with
   | false=>rw [hc] at h; cases h
   | true =>
     rw [hc] at h
     simp only [bX,dS] at hc
     obtain ⟨e1,e2,e3⟩:=hc
     have e1:=fm e1
     have e2:=fm e2
     simp only [cond_true,ja,jA] at h
     obtain ⟨rfl,rfl⟩:=h
     exact ⟨by rw [h1,e1,e2,e3],h2,h3⟩
 . cases h
theorem Kj {U:St} {id:Nat} {kv:List AV × List AV} (h:U.mp id=some kv):U.set id (.mp kv.1 kv.2)=U:=by
 have:=St.qd.1 h
 simp only [St.set]
 cases U with
 | mk live nb =>
   simp only [St.mk.injEq,and_true]
   funext q
   split
   . rename_i e; subst e; exact this.symm
   . rfl
theorem Dn.gP {I:oH} {listed:Array Bool} (hD:Dn ops listed) (hc:qQ ops I listed=true):Dn ops (Go.Rip.gP listed I.l):=by
 simp only [qQ,bX,fl] at hc
 obtain ⟨h0,h1,h2,h3,_⟩:=hc
 have h2:=fm h2
 have mono:∀ (l:List Nat) (a:Array Bool) (j:Nat),a.getD j false=true->(Go.Rip.gP a l).getD j false=true:=fun l=>by
  induction l with
  | nil=>exact fun a j h=>h
  | cons i l ih=>exact fun a j h=>ih _ j (getD_set_true h)
 intro m o ho hl e he hb
 by_cases hm:m ∈ I.l
 . have:=(h3 m hm).2.2
   rw [ho] at this
   simp only [Gw,fl,jM] at this
   have:=this e (by simpa using he)
   rw [hb] at this
   exact mono _ _ _ (by simpa using this)
 . have aQ:m < listed.size:=by rw [h2]; exact (lz.1 ho).1
   have hlm:listed.getD m false=true:=by
    cases hh:listed.getD m true with
    | false =>
      have k:=(yh I.l listed m).2 ⟨hh,hm⟩
      have hs:m < (Go.Rip.gP listed I.l).size:=by rw [vT]; exact aQ
      simp [hs] at k hl
      rw [k] at hl; cases hl
    | true=>simp [aQ] at hh ⊢; exact hh
   exact mono _ _ _ (hD m o ho hlm e he hb)
theorem Pk {I:oH} {listed:Array Bool} {e:TypeId} {mm:Nat} {K1:Env->St->Prop} (ht:rA C.P I.t=some (.i,e)) (hc:qQ ops I listed=true)
 (hK1:∀ ρ U,Dn ops (gP listed I.l)->cY B aq U->K1 ρ U->mV C mu ops (cY B aq) K Kp mm (gP listed I.l) ρ U):∀ ρ U,Dn ops listed->cY B aq U->MJ C ops B I K1 ρ U->mV C mu ops (cY B aq) K Kp (I.l.length+mm) listed ρ U:=by
 rintro ρ U hD hI ⟨id,hm,HU,hB,hK⟩
 have hDs:=hD.gP hc
 simp only [qQ,bX,fl,dS,Bool.not_eq_true'] at hc
 obtain ⟨h0,h1,h2,h3,h4,h5⟩:=hc
 have h2:=fm h2
 have MF:∀ i ∈ I.l,∃ a v,nf ops I i=some (a,v):=fun i hi=>by
  have:=(h3 i hi).2.1
  obtain ⟨p,hp⟩:=Option.isSome_iff_exists.1 this
  exact ⟨p.1,p.2,hp⟩
 have nQ:∀ x,x ∈ oC C ops ρ I ↔ ∃ i ∈ I.l,∃ a v,nf ops I i=some (a,v)/\x=⟨i,a,ρ.ev C v⟩:=fun x=>by
  simp only [oC,List.mem_filterMap,pS]
  constructor
  . rintro ⟨i,hi,⟨a,v⟩,hp,rfl⟩; exact ⟨i,hi,a,v,hp,rfl⟩
  . rintro ⟨i,hi,a,v,hp,rfl⟩; exact ⟨i,hi,(a,v),hp,rfl⟩
 have tw:∀ j,(∃ x ∈ oC C ops ρ I,x.i=j) ↔ j ∈ I.l:=fun j=>by
  constructor
  . rintro ⟨x,hx,rfl⟩
    obtain ⟨i,hi,a,v,hp,rfl⟩:=(nQ _).1 hx
    exact hi
  . intro hj
    obtain ⟨a,v,hp⟩:=MF j hj
    exact ⟨_,(nQ _).2 ⟨j,hj,a,v,hp,rfl⟩,rfl⟩
 rw [<- Kj HU]
 have hlen:(oC C ops ρ I).length=I.l.length:=by
  have:∀ l:List Nat,(∀ i ∈ l,∃ a v,nf ops I i=some (a,v))->(l.filterMap fun i=>(nf ops I i).map fun p=>(⟨i,p.1,ρ.ev C p.2⟩:vB)).length=l.length:=fun l=>by
   induction l with
   | nil=>intro _; rfl
   | cons i l ih =>
     intro h
     obtain ⟨a,v,hp⟩:=h i (by simp)
     simp only [List.filterMap_cons,hp,Option.map_some,gU,ih fun j hj=>h j (by simp [hj])]
  exact this _ MF
 have hpw:(oC C ops ρ I).Pairwise (fun x y=>x.i ≠ y.i/\x.key ≠ y.key):=by
  have:∀ l:List Nat,(∀ i ∈ l,∃ a v,nf ops I i=some (a,v))->l.Nodup->(l.map fun i=>((nf ops I i).map (·.1)).getD 0).Nodup->(l.filterMap fun i=>(nf ops I i).map fun p=>(⟨i,p.1,ρ.ev C p.2⟩:vB)).Pairwise (fun x y=>x.i ≠ y.i/\x.key ≠ y.key):=fun l=>by
   induction l with
   | nil=>intro _ _ _; exact List.Pairwise.nil
   | cons i l ih =>
     intro h hn hk
     obtain ⟨a,v,hp⟩:=h i (by simp)
     rw [List.nodup_cons] at hn
     rw [eC,List.nodup_cons] at hk
     simp only [List.filterMap_cons,hp,Option.map_some]
     refine List.Pairwise.cons (fun y hy=>?_) (ih (fun j hj=>h j (by simp [hj])) hn.2 hk.2)
     rw [List.mem_filterMap] at hy
     obtain ⟨j,hj,hjy⟩:=hy
     rw [pS] at hjy
     obtain ⟨p,wG,rfl⟩:=hjy
     refine ⟨fun e=>hn.1 (by have e:i=j:=e; rw [e]; exact hj),fun e=>hk.1 ?_⟩
     have e:a=p.1:=e
     refine List.mem_map.2 ⟨j,hj,?_⟩
     rw [wG,hp]; simp [e]
  exact this _ MF h4 h5
 refine XY (kk:=I.kk) ht hm hB mm _ (oC C ops ρ I) listed U ([],[]) hlen ?_ ?_ hpw ?_ hI ⟨rfl,fun y hy=>by cases hy⟩ (fun x hx=>by simp) ?_
 . intro x hx
   exact h1 x.i ((tw x.i).1 ⟨x,hx,rfl⟩)
 . intro j o ho hj
   have aQ:j < ops.size:=(lz.1 ho).1
   simp only [DU,fl,List.mem_range,jM] at h0
   have:=h0 j aQ
   rw [ho,hj] at this
   rcases this with h | h | h
   . cases h
   . left; exact (tw j).2 (by simpa using h)
   . right
     intro x hx
     simp only [fl] at h
     have:=h x.i ((tw x.i).1 ⟨x,hx,rfl⟩)
     rw [List.any_eq_true] at this
     obtain ⟨ed,he,hb⟩:=this
     simp only [bX] at hb
     exact ⟨ed,by simpa using he,hb.1,fm hb.2⟩
 . intro x hx
   obtain ⟨i,hi,a,v,hp,rfl⟩:=(nQ _).1 hx
   unfold nf at hp
   rw [Option.bind_eq_some_iff] at hp
   obtain ⟨o,ho,hp⟩:=hp
   obtain ⟨q1,q2,q3⟩:=ML hp
   refine ⟨o,v,ho,q1,q2,q3,rfl,fun ed he hb=>?_⟩
   have:=(h3 i hi).2.2
   rw [ho] at this
   simp only [Gw,fl,jM] at this
   have:=this ed (by simpa using he)
   rw [hb] at this
   simpa using this
 . intro nj eO u3
   have e:nj=gP listed I.l:=by
    apply Array.ext (by rw [vT,eO])
    intro j zr rV
    have k1:=u3 j
    have k2:=yh I.l listed j
    rw [tw] at k1
    have k3:nj.getD j true=false ↔ (gP listed I.l).getD j true=false:=k1.trans k2.symm
    have e1:nj.getD j true=nj[j]:=by simp [zr]
    have e2:(gP listed I.l).getD j true=(gP listed I.l)[j]:=by simp [rV]
    rw [e1,e2] at k3
    cases h1:nj[j] <;> cases h2:(gP listed I.l)[j] <;> simp_all
   rw [e]
   refine hK1 ρ _ hDs ?_ hK
   intro b hb
   have cn:b ≠ id:=fun e=>hB (e ▸ hb)
   simp only [St.set,if_neg cn]
   exact hI b hb
def vj (P:Program) (ops:Array Oper) (dt:List (Bool × Nat)) (I:oH) (post:List (Bool × Nat)):Bool :=
 (match ph ops dt (Array.replicate ops.size false) with | some l=>qQ ops I l && iV ops post (gP l I.l) | none=>false) && (Nat.beq (dt.length+(I.l.length+post.length)) ops.size && (match rA P I.t with | some (.i,_)=>true | _=>false))
theorem bH.Qe {nt id:Nat} {ro:Ro} {Q:Ex->Env->St->Prop} {ρ:Env} {U:St} (dt:List (Bool × Nat)) (I:oH) (post:List (Bool × Nat)) (hm:C.P.follows .mixedOrders=true) (cK:lJ nt ops=true) (hp:vj C.P ops dt I post=true)
 (h:mh C mu ops B U (MJ C ops B I (mh C mu ops B U (KQ Q) (yD Q) post)) (yD Q) dt ρ U):bH C nt ro (.region id ops true) Q ρ U:=by
 simp only [vj,bX] at hp
 obtain ⟨h1,h2,h3⟩:=hp
 have h2:=fm h2
 split at h3
 . rename_i e ht
   split at h1
   . rename_i l hl
     rw [bX] at h1
     refine bH.zZ mu (cY B U) hm cK ?_
     have:=xY (Pk ht h1.1 (fun er ad hD' CP hk=>sY post _ er ad h1.2 hD' (.inr CP) hk)) dt _ ρ U hl (Dn.none _ _) (fun _ _=>rfl) h
     rw [h2] at this
     exact this
   . cases h1
 . cases h3
end
end Go.Rip
namespace Go.Rip
open Go.RowKit
structure Row where
 d:Nat
 l:Nat
 a:Nat
def LX:Option Nat->Nat
 | some d=>2 ^ d
 | none=>0
def ql:List Nat->Nat
 | []=>0
 | d::l=>Nat.lor (2 ^ d) (ql l)
theorem ek (k:Nat):∀ l:List Nat,(ql l).testBit k=true ↔ k ∈ l
 | []=>by simp [ql]
 | d::l=>by
   show (2 ^ d ||| ql l).testBit k=true ↔ _
   rw [Nat.testBit_or,Nat.testBit_two_pow,jM,ek k l]
   simp [eq_comm]
theorem kg (k:Nat) (o:Option Nat):(LX o).testBit k=true ↔ o=some k:=by
 cases o with
 | none=>simp [LX]
 | some d=>simp [LX,Nat.testBit_two_pow]
def yX (o:Oper):List Nat:=(o.after.toList.filter fun e=>Region.binds .any e).map (·.on)
def rowOf (ops:Array Oper) (o:Oper):Row:=⟨LX o.dst,ql (o.looksAt ops),ql (yX o)⟩
def nZ (a b:Nat):Bool:=Nat.beq (Nat.land a b) a
def Mc (a b:Nat):Bool:=Nat.beq (Nat.land a b) 0
theorem s9 {a b:Nat} (h:nZ a b=true) (k:Nat) (hk:a.testBit k=true):b.testBit k=true:=by
 have e:a &&& b=a:=fm h
 have:=congrArg (fun n=>n.testBit k) e
 simp only [Nat.testBit_and,hk,Bool.true_and] at this
 exact this
theorem qJ {a b:Nat} (h:Mc a b=true) (k:Nat) (hk:a.testBit k=true):¬ b.testBit k=true:=by
 have e:a &&& b=0:=fm h
 have:=congrArg (fun n=>n.testBit k) e
 simp only [Nat.testBit_and,hk,Bool.true_and,Nat.zero_testBit] at this
 simp [this]
def hasB (m i:Nat):Bool:=Nat.beq (Nat.land (Nat.shiftRight m i) 1) 1
theorem oB (m i:Nat):hasB m i=m.testBit i:=by
 have e:Nat.land (Nat.shiftRight m i) 1=1 &&& (m >>> i):=Nat.and_comm _ _
 unfold hasB Nat.testBit
 rw [e]
 cases h:Nat.beq (1 &&& m >>> i) 1 with
 | true=>have:=fm h; rw [this]; rfl
 | false =>
   have h1:(1 &&& m >>> i) ≠ 1:=fun e=>by rw [e] at h; simp at h
   have h2:(1 &&& m >>> i)=0:=by
    have:1 &&& (m >>> i)=(m >>> i) % 2:=Nat.one_and_eq_mod_two _
    omega
   rw [h2]; rfl
def GK (i:Nat) (x y:Row):Bool:=hasB y.a i || (Mc x.d y.l && (Mc x.d y.d && Mc y.d x.l))
def BP (done i:Nat) (x:Row):List Row->Nat->Bool
 | [],_=>true
 | y::r,j=>(Nat.beq j i || (hasB done j || GK i x y)) && BP done i x r (j+1)
def BO (done i:Nat):List Row->Nat->Bool
 | [],_=>true
 | y::r,j=>(Nat.beq j i || (hasB done j || !nZ y.a done)) && BO done i r (j+1)
def x5 (rows:List Row) (n:Nat):List (Bool × Nat)->Nat->Bool
 | [],done=>Nat.beq done (2 ^ n - 1)
 | (true,i)::r,done=>match rows[i]? with
   | some x=>!hasB done i && (nZ x.a done && (BP done i x rows 0 && x5 rows n r (Nat.lor done (2 ^ i))))
   | none=>false
 | (false,i)::r,done=>match rows[i]? with
   | some x=>!hasB done i && (nZ x.a done && (BO done i rows 0 && x5 rows n r (Nat.lor done (2 ^ i))))
   | none=>false
theorem yZ {done i:Nat} {x:Row}:∀ {l:List Row} {j:Nat},BP done i x l j=true->∀ k y,l[k]?=some y->(j+k=i\/done.testBit (j+k)=true\/GK i x y=true)
 | [],_,_,k,y,hy=>by simp at hy
 | z::r,j,h,k,y,hy=>by
   simp only [BP,bX,jM,oB] at h
   cases k with
   | zero =>
     simp at hy; subst hy
     rcases h.1 with h | h | h
     . exact .inl (fm h)
     . exact .inr (.inl h)
     . exact .inr (.inr h)
   | succ k =>
     have:=yZ h.2 k y (by simpa using hy)
     rw [show j+(k+1)=j+1+k by omega]; exact this
theorem yY {done i:Nat}:∀ {l:List Row} {j:Nat},BO done i l j=true->∀ k y,l[k]?=some y->(j+k=i\/done.testBit (j+k)=true\/nZ y.a done=false)
 | [],_,_,k,y,hy=>by simp at hy
 | z::r,j,h,k,y,hy=>by
   simp only [BO,bX,jM,oB,Bool.not_eq_true'] at h
   cases k with
   | zero =>
     simp at hy; subst hy
     rcases h.1 with h | h | h
     . exact .inl (fm h)
     . exact .inr (.inl h)
     . exact .inr (.inr h)
   | succ k =>
     have:=yY h.2 k y (by simpa using hy)
     rw [show j+(k+1)=j+1+k by omega]; exact this
def iM (n:Nat) (listed:Array Bool) (done:Nat):Prop:=listed.size=n/\∀ k,k < n->listed[k]?=some (done.testBit k)
section
variable {ops:Array Oper} {listed:Array Bool} {done:Nat}
theorem iM.get (h:iM ops.size listed done) {k:Nat} (hk:k < ops.size) (d:Bool):listed.getD k d=done.testBit k:=by
 have:=h.2 k hk
 simp [this]
theorem iM.out (h:iM ops.size listed done) {k:Nat} (hk:¬ k < ops.size) (d:Bool):listed.getD k d=d:=by
 have:listed[k]?=none:=yc (by rw [h.1]; omega)
 simp [this]
theorem iM.set (h:iM ops.size listed done) (i:Nat):iM ops.size (listed.setIfInBounds i true) (Nat.lor done (2 ^ i)):=by
 refine ⟨by simp [h.1],fun k hk=>?_⟩
 show _=some ((done ||| 2 ^ i).testBit k)
 rw [Nat.testBit_or,Nat.testBit_two_pow]
 by_cases e:i=k
 . subst e
   have:i < listed.size:=by rw [h.1]; exact hk
   simp [Array.getElem?_setIfInBounds,this]
 . rw [Array.getElem?_setIfInBounds_ne e,h.2 k hk]
   simp [e]
theorem yf {i:Nat} {x:Row} (h:(ops.toList.map (rowOf ops))[i]?=some x):∃ o,ops[i]?=some o/\x=rowOf ops o:=by
 rw [nr,pS] at h
 obtain ⟨o,ho,e⟩:=h
 exact ⟨o,by simpa using ho,e.symm⟩
theorem tU {o:Oper} {k:Nat}:k ∈ yX o ↔ ∃ e ∈ o.after,Region.binds .any e=true/\e.on=k:=by
 simp [yX,and_assoc]
theorem qU (h:iM ops.size listed done) {j:Nat} {o:Oper} (ho:ops[j]?=some o):j ∈ Region.ready .any ops listed ↔ done.testBit j=false/\∀ k,k ∈ yX o->k < ops.size/\done.testBit k=true:=by
 have hj:j < ops.size:=(lz.1 ho).1
 rw [mem_ready,h.get hj]
 refine and_congr_right fun _=>⟨?_,?_⟩
 . rintro ⟨o',Wb,cm⟩ k hk
   rw [ho] at Wb; cases Wb
   obtain ⟨e,he,hb,rfl⟩:=tU.1 hk
   have:=cm e he hb
   by_cases hk:e.on < ops.size
   . rw [h.get hk] at this; exact ⟨hk,this⟩
   . rw [h.out hk] at this; cases this
 . intro cm
   refine ⟨o,ho,fun e he hb=>?_⟩
   obtain ⟨hk,ht⟩:=cm e.on (tU.2 ⟨e,he,hb,rfl⟩)
   rw [h.get hk]; exact ht
theorem Gr {i:Nat} {o:Oper} (hm:iM ops.size listed done) (ho:ops[i]?=some o) (h3:BP done i (rowOf ops o) (ops.toList.map (rowOf ops)) 0=true):Region.free .any ops listed i=true:=by
 simp only [Region.free,ho,fl,List.mem_range,jM]
 intro j hj
 obtain ⟨oj,pa⟩:∃ oj,ops[j]?=some oj:=⟨ops[j],by simp [hj]⟩
 rw [pa]
 have hy:(ops.toList.map (rowOf ops))[j]?=some (rowOf ops oj):=by
  rw [nr]; simp [pa]
 rcases yZ h3 j _ hy with e | e | e
 . left; left; simp at e; simp [e]
 . left; right; rw [hm.get hj]; simpa using e
 . right
   simp only [GK,jM,bX,oB] at e
   show ((oj.after.any fun e=>Region.binds .any e && e.on == i) || o.apart ops oj)=true
   rw [jM]
   rcases e with e | ⟨e1,e2,e3⟩
   . left
     have:=(ek i _).1 e
     obtain ⟨ed,he,hb,CZ⟩:=tU.1 this
     rw [Array.any_eq_true']
     exact ⟨ed,he,by simp [hb,CZ]⟩
   . right
     have k1:∀ d,o.dst=some d->d ∉ oj.looksAt ops:=fun d hd hm=>qJ e1 d ((kg d _).2 hd) ((ek d _).2 hm)
     have k2:∀ d,o.dst=some d->oj.dst ≠ some d:=fun d hd hm=>qJ e2 d ((kg d _).2 hd) ((kg d _).2 hm)
     have k3:∀ d,oj.dst=some d->d ∉ o.looksAt ops:=fun d hd hm=>qJ e3 d ((kg d _).2 hd) ((ek d _).2 hm)
     unfold Oper.apart
     cases Bf:o.dst <;> cases sT:oj.dst <;> simp only [bX,Bool.not_eq_true',bne_iff_ne,ne_eq,Bool.and_self,and_self,true_and,and_true]
     . rename_i d; simpa using k3 d sT
     . rename_i d; exact ⟨by simpa using k1 d Bf,by simp⟩
     . rename_i d d'
       refine ⟨⟨by simpa using k1 d Bf,fun e=>k2 d Bf (by rw [sT]; exact e)⟩,by simpa using k3 d' sT⟩
theorem zY {i:Nat} {o:Oper} (hm:iM ops.size listed done) (ho:ops[i]?=some o) (h1:done.testBit i=false) (sub:∀ k,k ∈ yX o->k < ops.size/\done.testBit k=true) (h3:BO done i (ops.toList.map (rowOf ops)) 0=true):Region.ready .any ops listed=[i]:=by
 have key:∀ j,j ∈ Region.ready .any ops listed->j=i:=fun j hj=>by
  obtain ⟨h0,oj,pa,_⟩:=mem_ready.1 hj
  have hr:=(qU hm pa).1 hj
  have KS:j < ops.size:=(lz.1 pa).1
  have hy:(ops.toList.map (rowOf ops))[j]?=some (rowOf ops oj):=by
   rw [nr]; simp [pa]
  rcases yY h3 j _ hy with e | e | e
  . simpa using e
  . rw [cU] at e; rw [hr.1] at e; cases e
  . exfalso
    have:nZ (rowOf ops oj).a done=true:=by
     unfold nZ
     have e2:(rowOf ops oj).a &&& done=(rowOf ops oj).a:=by
      apply Nat.eq_of_testBit_eq
      intro k
      rw [Nat.testBit_and]
      cases hk:(rowOf ops oj).a.testBit k with
      | false=>rfl
      | true=>rw [(hr.2 k ((ek k _).1 hk)).2]; rfl
     show Nat.beq ((rowOf ops oj).a &&& done) _=true
     rw [e2]; simp
    rw [this] at e; cases e
 have nQ:=(qU hm ho).2 ⟨h1,sub⟩
 have hnd:(Region.ready .any ops listed).Nodup:=(List.Pairwise.filter _ List.nodup_range)
 match hl:Region.ready .any ops listed with
 | []=>rw [hl] at nQ; cases nQ
 | [x]=>rw [hl] at key; rw [key x (by simp)]
 | x::y::zs =>
   rw [hl] at key hnd
   have e1:=key x (by simp)
   have e2:=key y (by simp)
   subst e1; subst e2
   simp at hnd
theorem x6:∀ (dt:List (Bool × Nat)) (listed:Array Bool) (done:Nat),iM ops.size listed done->done < 2 ^ ops.size->x5 (ops.toList.map (rowOf ops)) ops.size dt done=true->iV ops dt listed=true
 | [],listed,done,hm,aQ,h=>by
   have e:done=2 ^ ops.size - 1:=fm h
   simp only [iV,List.isEmpty_iff]
   rw [List.eq_nil_iff_forall_not_mem]
   intro j hj
   obtain ⟨h0,o,ho,_⟩:=mem_ready.1 hj
   have KS:j < ops.size:=(lz.1 ho).1
   rw [hm.get KS,e,Nat.testBit_two_pow_sub_one] at h0
   simp [KS] at h0
 | (true,i)::r,listed,done,hm,aQ,h=>by
   simp only [x5] at h
   split at h
   . rename_i x hx
     obtain ⟨o,ho,rfl⟩:=yf hx
     simp only [bX,Bool.not_eq_true',oB] at h
     obtain ⟨h1,h2,h3,h4⟩:=h
     have hi:i < ops.size:=(lz.1 ho).1
     have th:Nat.lor done (2 ^ i) < 2 ^ ops.size:=Nat.or_lt_two_pow aQ (Nat.pow_lt_pow_right (by omega) hi)
     have sub:∀ k,k ∈ yX o->k < ops.size/\done.testBit k=true:=fun k hk=>by
      have:=s9 h2 k ((ek k _).2 hk)
      refine ⟨?_,this⟩
      rcases jL k ops.size with h | h
      . exact h
      . rw [Nat.testBit_lt_two_pow (Nat.lt_of_lt_of_le aQ (Nat.pow_le_pow_right (by omega) h))] at this; cases this
     simp only [iV,bX]
     refine ⟨⟨?_,?_⟩,x6 r _ _ (hm.set i) th h4⟩
     . simp only [List.contains_iff_mem]
       exact (qU hm ho).2 ⟨h1,sub⟩
     . simp only [Region.free,ho,fl,List.mem_range,jM]
       intro j hj
       obtain ⟨oj,pa⟩:∃ oj,ops[j]?=some oj:=⟨ops[j],by simp [hj]⟩
       rw [pa]
       have hy:(ops.toList.map (rowOf ops))[j]?=some (rowOf ops oj):=by
        rw [nr]; simp [pa]
       rcases yZ h3 j _ hy with e | e | e
       . left; left; simp at e; simp [e]
       . left; right; rw [hm.get hj]; simpa using e
       . right
         simp only [GK,jM,bX,oB] at e
         show ((oj.after.any fun e=>Region.binds .any e && e.on == i) || o.apart ops oj)=true
         rw [jM]
         rcases e with e | ⟨e1,e2,e3⟩
         . left
           have:=(ek i _).1 e
           obtain ⟨ed,he,hb,CZ⟩:=tU.1 this
           rw [Array.any_eq_true']
           exact ⟨ed,he,by simp [hb,CZ]⟩
         . right
           have k1:∀ d,o.dst=some d->d ∉ oj.looksAt ops:=fun d hd hm=>qJ e1 d ((kg d _).2 hd) ((ek d _).2 hm)
           have k2:∀ d,o.dst=some d->oj.dst ≠ some d:=fun d hd hm=>qJ e2 d ((kg d _).2 hd) ((kg d _).2 hm)
           have k3:∀ d,oj.dst=some d->d ∉ o.looksAt ops:=fun d hd hm=>qJ e3 d ((kg d _).2 hd) ((ek d _).2 hm)
           unfold Oper.apart
           cases Bf:o.dst <;> cases sT:oj.dst <;> simp only [bX,Bool.not_eq_true',bne_iff_ne,ne_eq,Bool.and_self,and_self,true_and,and_true]
           . rename_i d; simpa using k3 d sT
           . rename_i d; exact ⟨by simpa using k1 d Bf,by simp⟩
           . rename_i d d'
             refine ⟨⟨by simpa using k1 d Bf,fun e=>k2 d Bf (by rw [sT]; exact e)⟩,by simpa using k3 d' sT⟩
   . cases h
 | (false,i)::r,listed,done,hm,aQ,h=>by
   simp only [x5] at h
   split at h
   . rename_i x hx
     obtain ⟨o,ho,rfl⟩:=yf hx
     simp only [bX,Bool.not_eq_true',oB] at h
     obtain ⟨h1,h2,h3,h4⟩:=h
     have hi:i < ops.size:=(lz.1 ho).1
     have th:Nat.lor done (2 ^ i) < 2 ^ ops.size:=Nat.or_lt_two_pow aQ (Nat.pow_lt_pow_right (by omega) hi)
     have sub:∀ k,k ∈ yX o->k < ops.size/\done.testBit k=true:=fun k hk=>by
      have:=s9 h2 k ((ek k _).2 hk)
      refine ⟨?_,this⟩
      rcases jL k ops.size with h | h
      . exact h
      . rw [Nat.testBit_lt_two_pow (Nat.lt_of_lt_of_le aQ (Nat.pow_le_pow_right (by omega) h))] at this; cases this
     simp only [iV,bX,beq_iff_eq]
     refine ⟨?_,x6 r _ _ (hm.set i) th h4⟩
     have key:∀ j,j ∈ Region.ready .any ops listed->j=i:=fun j hj=>by
      obtain ⟨h0,oj,pa,_⟩:=mem_ready.1 hj
      have hr:=(qU hm pa).1 hj
      have KS:j < ops.size:=(lz.1 pa).1
      have hy:(ops.toList.map (rowOf ops))[j]?=some (rowOf ops oj):=by
       rw [nr]; simp [pa]
      rcases yY h3 j _ hy with e | e | e
      . simpa using e
      . rw [cU] at e; rw [hr.1] at e; cases e
      . exfalso
        have:nZ (rowOf ops oj).a done=true:=by
         unfold nZ
         have e2:(rowOf ops oj).a &&& done=(rowOf ops oj).a:=by
          apply Nat.eq_of_testBit_eq
          intro k
          rw [Nat.testBit_and]
          cases hk:(rowOf ops oj).a.testBit k with
          | false=>rfl
          | true=>rw [(hr.2 k ((ek k _).1 hk)).2]; rfl
         show Nat.beq ((rowOf ops oj).a &&& done) _=true
         rw [e2]; simp
        rw [this] at e; cases e
     have nQ:=(qU hm ho).2 ⟨h1,sub⟩
     have hnd:(Region.ready .any ops listed).Nodup:=(List.Pairwise.filter _ List.nodup_range)
     match hl:Region.ready .any ops listed with
     | []=>rw [hl] at nQ; cases nQ
     | [x]=>rw [hl] at key; rw [key x (by simp)]
     | x::y::zs =>
       rw [hl] at key hnd
       have e1:=key x (by simp)
       have e2:=key y (by simp)
       subst e1; subst e2
       simp at hnd
   . cases h
end
def Dt:List Row->List Row->Bool
 | [],[]=>true
 | x::xs,y::ys=>Nat.beq x.d y.d && (Nat.beq x.l y.l && (Nat.beq x.a y.a && Dt xs ys))
 | _,_=>false
theorem Cf:∀ {a b:List Row},Dt a b=true->a=b
 | [],[],_=>rfl
 | x::xs,y::ys,h=>by
   simp only [Dt,bX] at h
   obtain ⟨h1,h2,h3,h4⟩:=h
   obtain ⟨a,b,c⟩:=x
   obtain ⟨a',b',c'⟩:=y
   have e1:a=a':=fm h1
   have e2:b=b':=fm h2
   have e3:c=c':=fm h3
   rw [e1,e2,e3,Cf h4]
 | [],_::_,h=>by cases h
 | _::_,[],h=>by cases h
structure Pl where
 steps:List (Bool × Nat)
 rows:List Row
def IS (ops:Array Oper) (p:Pl):Bool:=Dt (ops.toList.map (rowOf ops)) p.rows && (x5 p.rows ops.size p.steps 0 && Nat.beq p.steps.length ops.size)
theorem El {ops:Array Oper} {p:Pl} (h:IS ops p=true):(iV ops p.steps (Array.replicate ops.size false) && (p.steps.length == ops.size))=true:=by
 simp only [IS,bX] at h
 obtain ⟨h1,h2,h3⟩:=h
 rw [<- Cf h1] at h2
 simp only [bX,beq_iff_eq]
 refine ⟨x6 _ _ 0 ⟨by simp,fun k hk=>by simp [hk]⟩ (Nat.two_pow_pos _) h2,fm h3⟩
def qT (ops:Array Oper) (rows:List Row):List (Bool × Nat)->Nat->Option Nat
 | [],done=>some done
 | (true,i)::r,done=>match rows[i]? with
   | some x=>cond (!hasB done i && (nZ x.a done && BP done i x rows 0)) (qT ops rows r (Nat.lor done (2 ^ i))) none
   | none=>none
 | (false,i)::r,done=>match rows[i]? with
   | some x=>cond (!hasB done i && (nZ x.a done && (BO done i rows 0 && !oV ops i))) (qT ops rows r (Nat.lor done (2 ^ i))) none
   | none=>none
section
variable {ops:Array Oper}
theorem x7:∀ (dt:List (Bool × Nat)) (listed:Array Bool) (done dn:Nat),iM ops.size listed done->done < 2 ^ ops.size->qT ops (ops.toList.map (rowOf ops)) dt done=some dn ->
 ∃ l,ph ops dt listed=some l/\iM ops.size l dn/\dn < 2 ^ ops.size
 | [],listed,done,dn,hm,aQ,h=>by
   simp only [qT,ja] at h
   subst h
   exact ⟨listed,rfl,hm,aQ⟩
 | (b,i)::r,listed,done,dn,hm,aQ,h=>by
   obtain ⟨x,hx⟩:∃ x,(ops.toList.map (rowOf ops))[i]?=some x:=by
    cases b <;> simp only [qT] at h <;> split at h <;> first | exact ⟨_,by assumption⟩ | cases h
   obtain ⟨o,ho,rfl⟩:=yf hx
   have hi:i < ops.size:=(lz.1 ho).1
   have th:Nat.lor done (2 ^ i) < 2 ^ ops.size:=Nat.or_lt_two_pow aQ (Nat.pow_lt_pow_right (by omega) hi)
   have sub:nZ (rowOf ops o).a done=true->∀ k,k ∈ yX o->k < ops.size/\done.testBit k=true:=fun h2 k hk=>by
    have:=s9 h2 k ((ek k _).2 hk)
    refine ⟨?_,this⟩
    rcases jL k ops.size with h | h
    . exact h
    . rw [Nat.testBit_lt_two_pow (Nat.lt_of_lt_of_le aQ (Nat.pow_le_pow_right (by omega) h))] at this; cases this
   cases b with
   | true =>
     simp only [qT,hx] at h
     cases hc:(!hasB done i && (nZ (rowOf ops o).a done && BP done i (rowOf ops o) (ops.toList.map (rowOf ops)) 0)) with
     | false=>rw [hc] at h; cases h
     | true =>
       rw [hc,cond_true] at h
       simp only [bX,Bool.not_eq_true',oB] at hc
       obtain ⟨l,k1,k2,k3⟩:=x7 r _ _ dn (hm.set i) th h
       refine ⟨l,?_,k2,k3⟩
       have H4:(Region.ready .any ops listed).contains i=true:=by
        simp only [List.contains_iff_mem]; exact (qU hm ho).2 ⟨hc.1,sub hc.2.1⟩
       have GC:Region.free .any ops listed i=true:=Gr hm ho hc.2.2
       simp only [ph,H4,GC,Bool.and_self,cond_true]
       exact k1
   | false =>
     simp only [qT,hx] at h
     cases hc:(!hasB done i && (nZ (rowOf ops o).a done && (BO done i (ops.toList.map (rowOf ops)) 0 && !oV ops i))) with
     | false=>rw [hc] at h; cases h
     | true =>
       rw [hc,cond_true] at h
       simp only [bX,Bool.not_eq_true',oB] at hc
       obtain ⟨l,k1,k2,k3⟩:=x7 r _ _ dn (hm.set i) th h
       refine ⟨l,?_,k2,k3⟩
       have B1:Region.ready .any ops listed=[i]:=zY hm ho hc.1 (sub hc.2.1) hc.2.2.1
       have O7:oV ops i=false:=by simpa using hc.2.2.2
       simp only [ph,B1,O7,gR,eQ,Bool.and_self,cond_true]
       exact k1
def LV (im:Nat) (done:Nat):List Row->Nat->Bool
 | [],_=>true
 | y::r,j=>(hasB done j || (hasB im j || nZ im y.a)) && LV im done r (j+1)
def Ps (ops:Array Oper) (rows:List Row) (I:oH) (done:Nat):Bool:=I.l.all fun i=>!hasB done i && ((nf ops I i).isSome && (match rows[i]? with | some x=>nZ x.a done | none=>false))
def increasing:List Nat->Bool
 | a::b::l=>Nat.blt a b && increasing (b::l)
 | _=>true
def sI:List Int->Bool
 | a::b::l=>decide (a < b) && sI (b::l)
 | _=>true
def B9 (P:Program) (ops:Array Oper) (rows:List Row) (dt:List (Bool × Nat)) (I:oH) (post:List (Bool × Nat)):Bool :=
 Dt (ops.toList.map (rowOf ops)) rows && ((match qT ops rows dt 0 with
  | some dn=>LV (ql I.l) dn rows 0 && (Ps ops rows I dn && x5 rows ops.size post (Nat.lor dn (ql I.l)))
  | none=>false) && (increasing I.l && (sI (I.l.map fun i=>((nf ops I i).map (·.1)).getD 0) && (Nat.beq (dt.length+(I.l.length+post.length)) ops.size && (match rA P I.t with | some (.i,_)=>true | _=>false)))))
theorem yN:∀ l:List Nat,increasing l=true->l.Pairwise (· < ·)
 | [],_=>List.Pairwise.nil
 | [a],_=>List.pairwise_singleton ..
 | a::b::l,h=>by
   simp only [increasing,bX] at h
   have KM:a < b:=Nat.le_of_ble_eq_true h.1
   have ih:=yN (b::l) h.2
   refine List.Pairwise.cons (fun y hy=>?_) ih
   rcases cD.1 hy with rfl | hy
   . exact KM
   . exact Nat.lt_trans KM ((List.pairwise_cons.1 ih).1 y hy)
theorem wL:∀ l:List Int,sI l=true->l.Pairwise (· < ·)
 | [],_=>List.Pairwise.nil
 | [a],_=>List.pairwise_singleton ..
 | a::b::l,h=>by
   simp only [sI,bX,dS] at h
   have ih:=wL (b::l) h.2
   refine List.Pairwise.cons (fun y hy=>?_) ih
   rcases cD.1 hy with rfl | hy
   . exact h.1
   . exact Int.lt_trans h.1 ((List.pairwise_cons.1 ih).1 y hy)
theorem EJ {im done:Nat}:∀ {l:List Row} {j:Nat},LV im done l j=true->∀ k y,l[k]?=some y->(done.testBit (j+k)=true\/im.testBit (j+k)=true\/nZ im y.a=true)
 | [],_,_,k,y,hy=>by simp at hy
 | z::r,j,h,k,y,hy=>by
   simp only [LV,bX,jM,oB] at h
   cases k with
   | zero=>simp at hy; subst hy; exact h.1
   | succ k =>
     have:=EJ h.2 k y (by simpa using hy)
     rw [show j+(k+1)=j+1+k by omega]; exact this
theorem iM.gP {n:Nat}:∀ (l:List Nat) (listed:Array Bool) (done:Nat),iM ops.size listed done->iM ops.size (Go.Rip.gP listed l) (Nat.lor done (ql l))
 | [],listed,done,h=>by
   show iM ops.size listed (done ||| 0)
   rw [Nat.or_zero]; exact h
 | i::l,listed,done,h=>by
   have:=iM.gP (n:=n) l _ _ (h.set i)
   show iM ops.size (Go.Rip.gP (listed.setIfInBounds i true) l) (done ||| (2 ^ i ||| ql l))
   rw [<- Nat.or_assoc]; exact this
theorem Kd {P:Program} {rows:List Row} {dt:List (Bool × Nat)} {I:oH} {post:List (Bool × Nat)} (h:B9 P ops rows dt I post=true):vj P ops dt I post=true:=by
 simp only [B9,bX] at h
 obtain ⟨h1,h2,h3,h4,h5,h6⟩:=h
 rw [<- Cf h1] at h2
 split at h2
 . rename_i dn hd
   simp only [bX] at h2
   obtain ⟨b1,b2,b3⟩:=h2
   obtain ⟨l,k1,k2,k3⟩:=x7 dt (Array.replicate ops.size false) 0 dn ⟨by simp,fun k hk=>by simp [hk]⟩ (Nat.two_pow_pos _) hd
   have afe:=yN _ h3
   have adD:=wL _ h4
   simp only [Ps,fl,bX,Bool.not_eq_true',oB] at b2
   have xz:∀ i ∈ I.l,∃ o,ops[i]?=some o/\nZ (rowOf ops o).a dn=true:=fun i hi=>by
    have:=(b2 i hi).2.2
    split at this
    . rename_i x hx
      obtain ⟨o,ho,rfl⟩:=yf hx
      exact ⟨o,ho,this⟩
    . cases this
   have aQ:∀ i ∈ I.l,i < ops.size:=fun i hi=>by
    obtain ⟨o,ho,_⟩:=xz i hi
    exact (lz.1 ho).1
   have him:ql I.l < 2 ^ ops.size:=by
    have:∀ l:List Nat,(∀ i ∈ l,i < ops.size)->ql l < 2 ^ ops.size:=fun l=>by
     induction l with
     | nil=>intro _; exact Nat.two_pow_pos _
     | cons i l ih=>intro hh; exact Nat.or_lt_two_pow (Nat.pow_lt_pow_right (by omega) (hh i (by simp))) (ih fun j hj=>hh j (by simp [hj]))
    exact this _ aQ
   have Y7:∀ {o:Oper} {m:Nat},m < 2 ^ ops.size->nZ (rowOf ops o).a m=true->∀ e ∈ o.after,Region.binds .any e=true->m.testBit e.on=true:=fun {o m} O3 hs e he hb =>
    s9 hs e.on ((ek _ _).2 (tU.2 ⟨e,he,hb,rfl⟩))
   simp only [vj,k1,bX]
   refine ⟨⟨?_,x6 post _ _ (iM.gP (n:=0) I.l l dn k2) (Nat.or_lt_two_pow k3 him) b3⟩,h5,h6⟩
   simp only [qQ,DU,bX,fl,List.mem_range,jM,dS,Bool.not_eq_true']
   refine ⟨fun j hj=>?_,fun i hi=>?_,?_,fun i hi=>⟨?_,(b2 i hi).2.1,?_⟩,afe.imp (fun h=>Nat.ne_of_lt h),adD.imp (fun h=>Int.ne_of_lt h)⟩
   . obtain ⟨o,ho⟩:∃ o,ops[j]?=some o:=⟨ops[j],by simp [hj]⟩
     have hy:(ops.toList.map (rowOf ops))[j]?=some (rowOf ops o):=by rw [nr]; simp [ho]
     rcases EJ b1 j _ hy with h | h | h
     . left; rw [k2.get hj]; simpa using h
     . right; left
       have:=(ek _ _).1 h
       simpa using this
     . right; right
       rw [ho]
       show (I.l.all fun i=>o.after.toList.any fun e=>Region.binds .any e && Nat.beq e.on i)=true
       rw [fl]
       intro i hi
       have:=s9 h i ((ek _ _).2 hi)
       obtain ⟨e,he,hb,CZ⟩:=tU.1 ((ek _ _).1 this)
       rw [List.any_eq_true]
       exact ⟨e,by simpa using he,by simp [hb,CZ]⟩
   . rw [k2.get (aQ i hi)]; exact (b2 i hi).1
   . rw [k2.1]; simp
   . show Nat.ble (i+1) ops.size=true
     exact Nat.ble_eq_true_of_le (aQ i hi)
   . obtain ⟨o,ho,hs⟩:=xz i hi
     rw [ho]
     simp only [Gw,fl,jM,Bool.not_eq_true']
     intro e he
     cases hb:Region.binds .any e with
     | false=>exact .inl rfl
     | true =>
       right
       have ht:=Y7 k3 hs e (by simpa using he) hb
       have th:e.on < ops.size:=by
        rcases jL e.on ops.size with h | h
        . exact h
        . rw [Nat.testBit_lt_two_pow (Nat.lt_of_lt_of_le k3 (Nat.pow_le_pow_right (by omega) h))] at ht; cases ht
       rw [k2.get th]; exact ht
 . cases h2
end
end Go.Rip
namespace Go.Rip
open Go.RowKit
inductive T (α:Type) where
 | e
 | n (l:T α) (v:Option α) (r:T α)
theorem zI {a b:Nat} (h:a ≠ b):Nat.beq a b=false:=by
 cases hb:Nat.beq a b with
 | false=>rfl
 | true=>exact absurd (fm hb) h
theorem M9 {a b:Nat} (h:a=b):Nat.beq a b=true:=by subst h; exact Nat.beq_refl a
namespace T
variable {α:Type}
def get:T α->Nat->Option α
 | .e,_=>none
 | .n l v r,i=>cond (Nat.beq i 0) v (cond (Nat.beq (i % 2) 1) (l.get (i / 2)) (r.get (i / 2 - 1)))
def yi:Nat->T α->Nat->Option α->T α
 | 0,t,_,_=>t
 | f+1,.e,i,v=>cond (Nat.beq i 0) (.n .e v .e) (cond (Nat.beq (i % 2) 1) (.n (yi f .e (i / 2) v) none .e) (.n .e none (yi f .e (i / 2 - 1) v)))
 | f+1,.n l w r,i,v=>cond (Nat.beq i 0) (.n l v r) (cond (Nat.beq (i % 2) 1) (.n (yi f l (i / 2) v) w r) (.n l w (yi f r (i / 2 - 1) v)))
def set (t:T α) (i:Nat) (v:Option α):T α:=yi (i+1) t i v
theorem TL:∀ (f:Nat) (t:T α) (i j:Nat) (v:Option α),i < f->(yi f t i v).get j=if j=i then v else t.get j:=by
 intro f
 induction f with
 | zero=>intro t i j v h; omega
 | succ f ih =>
   intro t i j v h
   have key:∀ (l r:T α) (w:Option α),(cond (Nat.beq i 0) (.n l v r) (cond (Nat.beq (i % 2) 1) (.n (yi f l (i / 2) v) w r) (.n l w (yi f r (i / 2 - 1) v))):T α).get j=if j=i then v else (T.n l w r).get j:=fun l r w=>by
    by_cases hi:i=0
    . subst hi
      simp only [Nat.beq_refl,cond_true,get]
      by_cases hj:j=0
      . subst hj; simp
      . have:Nat.beq j 0=false:=zI hj
        simp [this,hj]
    . have zq:Nat.beq i 0=false:=zI hi
      rw [zq,cond_false]
      by_cases h1:i % 2=1
      . have hb:Nat.beq (i % 2) 1=true:=M9 h1
        rw [hb,cond_true]
        simp only [get]
        by_cases hj:j=0
        . subst hj
          have:(0:Nat) ≠ i:=fun e=>hi e.symm
          simp [this]
        . have Fe:Nat.beq j 0=false:=zI hj
          rw [Fe,cond_false,cond_false]
          by_cases zr:j % 2=1
          . have HM:Nat.beq (j % 2) 1=true:=M9 zr
            rw [HM,cond_true,cond_true,ih _ _ _ _ (by omega)]
            by_cases e:j=i
            . subst e; simp
            . rw [if_neg (by omega),if_neg e]
          . have HM:Nat.beq (j % 2) 1=false:=zI zr
            rw [HM,cond_false,cond_false,if_neg (by omega)]
      . have hb:Nat.beq (i % 2) 1=false:=zI h1
        rw [hb,cond_false]
        simp only [get]
        by_cases hj:j=0
        . subst hj
          have:(0:Nat) ≠ i:=fun e=>hi e.symm
          simp [this]
        . have Fe:Nat.beq j 0=false:=zI hj
          rw [Fe,cond_false,cond_false]
          by_cases zr:j % 2=1
          . have HM:Nat.beq (j % 2) 1=true:=M9 zr
            rw [HM,cond_true,cond_true,if_neg (by omega)]
          . have HM:Nat.beq (j % 2) 1=false:=zI zr
            rw [HM,cond_false,cond_false,ih _ _ _ _ (by omega)]
            by_cases e:j=i
            . subst e; simp
            . rw [if_neg (by omega),if_neg e]
   cases t with
   | n l w r=>exact key l r w
   | e =>
     have:=key .e .e none
     simp only [yi]
     rw [this]
     congr 1
     simp only [get]
     cases Nat.beq j 0 <;> cases Nat.beq (j % 2) 1 <;> rfl
theorem tW (t:T α) (i j:Nat) (v:Option α):(t.set i v).get j=if j=i then v else t.get j:=TL _ _ _ _ _ (by omega)
def Lp:List α->Nat->T α->T α
 | [],_,t=>t
 | x::xs,i,t=>Lp xs (i+1) (t.set i (some x))
theorem KJ:∀ (l:List α) (i:Nat) (t:T α) (j:Nat),(Lp l i t).get j=if i <= j/\j < i+l.length then l[j - i]? else t.get j
 | [],i,t,j=>by simp [Lp]; omega
 | x::xs,i,t,j=>by
   simp only [Lp]
   rw [KJ xs (i+1) _ j,tW]
   by_cases h1:i+1 <= j/\j < i+1+xs.length
   . rw [if_pos h1,if_pos (by simp; omega)]
     have:j - i=(j - (i+1))+1:=by omega
     rw [this]; simp
   . rw [if_neg h1]
     by_cases h2:j=i
     . subst h2; simp
     . rw [if_neg h2,if_neg (by simp; omega)]
end T
def fJ (t:T AV):Env:=⟨fun i=>(t.get i).getD (.aH [])⟩
theorem Ot (t:T AV) (d:Nat) (v:AV):fJ (t.set d (some v))=(fJ t).put d v:=by
 simp only [fJ,Env.put,Env.mk.injEq]
 funext i
 rw [T.tW]
 split <;> rfl
def zT (t:T AV):Option Nat->AV->T AV
 | some d,v=>t.set d (some v)
 | none,_=>t
theorem qK (t:T AV) (d:Option Nat) (v:AV):fJ (zT t d v)=(fJ t).eM d v:=by
 cases d with
 | none=>rfl
 | some d=>exact Ot t d v
theorem Md (l:List AV):fJ (T.Lp l 0 .e)=Env.j0 l:=by
 simp only [fJ,Env.j0,Env.mk.injEq]
 funext i
 rw [T.KJ]
 by_cases h:i < l.length
 . rw [if_pos (by omega)]; simp [pT]
 . rw [if_neg (by omega)]
   simp [T.get,pT,uE (Nat.le_of_not_lt h)]
structure ES where
 live:T Live
 n:Nat
def bM (e:ES):St:=⟨fun b=>e.live.get b,some e.n⟩
def ES.set (e:ES) (b:Nat) (x:Live):ES:=⟨e.live.set b (some x),e.n⟩
def ES.del (e:ES) (b:Nat):ES:=⟨e.live.set b none,e.n⟩
def ES.tf (e:ES):Option Nat->ES
 | some b=>e.del b
 | none=>e
def ES.new (e:ES) (x:Live):ES:=⟨e.live.set e.n (some x),e.n+1⟩
theorem nY (e:ES) (b:Nat) (x:Live):bM (e.set b x)=(bM e).set b x:=by
 simp only [bM,ES.set,St.set,St.mk.injEq,and_true]
 funext y; rw [T.tW]
theorem Cj (e:ES) (b:Nat):bM (e.del b)=(bM e).del b:=by
 simp only [bM,ES.del,St.del,St.mk.injEq,and_true]
 funext y; rw [T.tW]
theorem SE (e:ES) (b:Option Nat):bM (e.tf b)=(bM e).tf b:=by
 cases b with
 | none=>rfl
 | some b=>exact Cj e b
theorem sB (e:ES) (x:Live):bM (e.new x)=(bM e).new e.n x:=by
 simp only [bM,ES.new,St.new,St.mk.injEq,Option.map_some,and_true]
 funext y; rw [T.tW]
def Ts:Fn->Fn->Bool
 | .func a,.func b=>Nat.beq a b
 | _,_=>false
theorem XR {a b:Fn} (h:Ts a b=true):a=b:=by
 cases a <;> cases b <;> simp only [Ts,bU] at h
 rw [fm h]
def Me:lg->lg->Bool
 | .full,.full=>true
 | .own a,.own b=>Nat.beq a b
 | .iE,.iE=>true
 | _,_=>false
theorem Tr {a b:lg} (h:Me a b=true):a=b:=by
 cases a <;> cases b <;> simp only [Me,bU] at h <;> first
  | rfl
  | rw [fm h]
mutual
def jJ:AV->AV->Bool
 | .bool a,.bool b=>a == b
 | .int k a,.int k' b=>decide (k=k') && decide (a=b)
 | .str a,.str b=>decide (a=b)
 | .aY,.aY | .ah,.ah | .jE,.jE | .dV,.dV | .dr,.dr=>true
 | .box a i,.box b j=>Nat.beq a b && Nat.beq i j
 | .cN l,.cN l'=>pO l l'
 | .vec n c l,.vec n' c' l'=>Nat.beq n n' && Me c c' && pO l l'
 | .ms b o n z e,.ms b' o' n' z' e'=>Nat.beq b b' && Nat.beq o o' && Nat.beq n n' && Nat.beq z z' && Nat.beq e e'
 | .mp a,.mp b=>Nat.beq a b
 | .fY ks vs,.fY ks' vs'=>pO ks ks' && pO vs vs'
 | .func f a b,.func f' a' b'=>Ts f f' && pO a a' && pO b b'
 | .iface t v,.iface t' v'=>Nat.beq t t' && jJ v v'
 | .agg l,.agg l'=>pO l l'
 | .aH l,.aH l'=>pO l l'
 | .rZ a,.rZ b=>Nat.beq a b
 | .it a,.it b=>Nat.beq a b
 | .any,.any=>true
 | _,_=>false
def pO:List AV->List AV->Bool
 | [],[]=>true
 | x::xs,y::ys=>jJ x y && pO xs ys
 | _,_=>false
end
mutual
theorem wh:∀ {a b:AV},jJ a b=true->a=b
 | .bool a,b,h=>by cases b <;> simp only [jJ,bU] at h; simpa using h
 | .int k a,b,h=>by cases b <;> simp only [jJ,bU] at h; simpa using h
 | .str a,b,h=>by cases b <;> simp only [jJ,bU] at h; simpa using h
 | .aY,b,h=>by cases b <;> simp only [jJ,bU] at h; rfl
 | .ah,b,h=>by cases b <;> simp only [jJ,bU] at h; rfl
 | .jE,b,h=>by cases b <;> simp only [jJ,bU] at h; rfl
 | .dV,b,h=>by cases b <;> simp only [jJ,bU] at h; rfl
 | .dr,b,h=>by cases b <;> simp only [jJ,bU] at h; rfl
 | .box a i,b,h=>by cases b <;> simp only [jJ,bU,bX] at h; rw [fm h.1,fm h.2]
 | .cN l,b,h=>by cases b <;> simp only [jJ,bU] at h; rw [kX h]
 | .vec n c l,b,h=>by cases b <;> simp only [jJ,bU,bX] at h; rw [fm h.1.1,Tr h.1.2,kX h.2]
 | .ms b o n z e,b',h=>by
   cases b' <;> simp only [jJ,bU,bX] at h
   rw [fm h.1.1.1.1,fm h.1.1.1.2,fm h.1.1.2,fm h.1.2,fm h.2]
 | .mp a,b,h=>by cases b <;> simp only [jJ,bU] at h; rw [fm h]
 | .fY ks vs,b,h=>by cases b <;> simp only [jJ,bU,bX] at h; rw [kX h.1,kX h.2]
 | .func f a b,b',h=>by cases b' <;> simp only [jJ,bU,bX] at h; rw [XR h.1.1,kX h.1.2,kX h.2]
 | .iface t v,b,h=>by cases b <;> simp only [jJ,bU,bX] at h; rw [fm h.1,wh h.2]
 | .agg l,b,h=>by cases b <;> simp only [jJ,bU] at h; rw [kX h]
 | .aH l,b,h=>by cases b <;> simp only [jJ,bU] at h; rw [kX h]
 | .rZ a,b,h=>by cases b <;> simp only [jJ,bU] at h; rw [fm h]
 | .it a,b,h=>by cases b <;> simp only [jJ,bU] at h; rw [fm h]
 | .any,b,h=>by cases b <;> simp only [jJ,bU] at h; rfl
theorem kX:∀ {a b:List AV},pO a b=true->a=b
 | [],b,h=>by cases b <;> simp only [pO,bU] at h; rfl
 | x::xs,b,h=>by cases b <;> simp only [pO,bU,bX] at h; rw [wh h.1,kX h.2]
end
def Hq:Option Live->Option Live->Bool
 | some (.box l),some (.box l')=>pO l l'
 | some (.mp a b),some (.mp a' b')=>pO a a' && pO b b'
 | _,_=>false
theorem Ou {a b:Option Live} (h:Hq a b=true):a=b:=by
 unfold Hq at h
 split at h
 . rw [kX h]
 . simp only [bX] at h; rw [kX h.1,kX h.2]
 . cases h
end Go.Rip
namespace Go.Rip
open Go.RowKit
structure jd where
 C:cQ
 mu:Nat->List Nat
 pf:Nat->Bool
 sm:Nat->List AV->Option AV
 Xh:Nat->List AV->ES->Option (AV × ES)
 tr:Nat->Bool
 ft:TypeId
 ins:Nat->Nat->Option (List Row × List (Bool × Nat) × oH × List (Bool × Nat)):=fun _ _=>none
abbrev KR:=cR->ES->Bool
abbrev KC:=Ex->T AV->ES->Bool
abbrev tH:=Nat->List AV->ES->KR->Bool
def rK (k kp:AV->ES->Bool):KR
 | .ret v,e=>k v e
 | .panic v,e=>kp v e
def AK (cf cy:tH) (e:ES):aD->(AV->ES->Bool)->(AV->ES->Bool)->Bool
 | .val v,k,_=>k v e
 | .iH v b x,k,_=>k v (e.set b x)
 | .new kd del x,k,_=>k (kd.at e.n) ((e.tf del).new x)
 | .lW b l,k,_=>l.all fun p=>k p.1 (e.set b p.2)
 | .enter f args,k,kp=>cf f args e (rK k kp)
 | .yield o args,k,kp=>cy o args e (rK k kp)
 | .panic v,_,kp=>kp v e
 | @aD.cond p d r,k,kp=>(@decide p d) && AK cf cy e r k kp
 | .bad,_,_=>false
def CG (V:jd) (cf cy:tH) (mu:List Nat) (ops:Array Oper):List Oper->T AV->ES->(T AV->ES->Bool)->(AV->ES->Bool)->Bool
 | [],ρ,e,k,_=>k ρ e
 | o::rest,ρ,e,k,kp=>match iz ops (fJ ρ) o.guard with
   | .bool true=>AK cf cy e (j6 V.C (oM mu o) o.op (fJ ρ) (bM e)) (fun v e'=>CG V cf cy mu ops rest (zT ρ o.dst v) e' k kp) kp
   | .bool false=>CG V cf cy mu ops rest (zT ρ o.dst (.aH [])) e k kp
   | _=>false
def LM (V:jd):aD->Option AV
 | .val v=>some v
 | @aD.cond p d r=>cond (@decide p d) (LM V r) none
 | .enter f args=>V.sm f args
 | _=>none
def Nt (B:List Nat) (e0 e:ES):Bool:=B.all fun b=>Hq (e.live.get b) (e0.live.get b)
def D3 (C:cQ) (B:List Nat) (ρ:Env) (op:Op):Bool:=op.operands.toList.all fun x=>(eL (ρ.ev C x)).all fun b=>B.any fun c=>Nat.beq c b
def pY (V:jd) (cf cy:tH) (mu:List Nat) (ops:Array Oper) (B:List Nat) (e0:ES):List (Bool × Nat)->T AV->ES->(T AV->ES->Bool)->(AV->ES->Bool)->Bool
 | [],ρ,e,k,_=>k ρ e
 | (true,i)::r,ρ,e,k,kp=>match ops[i]? with
   | none=>false
   | some o=>match iz ops (fJ ρ) o.guard with
     | .bool true=>quiet o.op && (!pG o.op || D3 V.C B (fJ ρ) o.op) && (match LM V (j6 V.C (oM mu o) o.op (fJ ρ) (bM e0)) with
       | some v=>pY V cf cy mu ops B e0 r (zT ρ o.dst v) e k kp
       | none=>false)
     | .bool false=>pY V cf cy mu ops B e0 r (zT ρ o.dst (.aH [])) e k kp
     | _=>false
 | (false,i)::r,ρ,e,k,kp=>match ops[i]? with
   | none=>false
   | some o=>match iz ops (fJ ρ) o.guard with
     | .bool true=>AK cf cy e (j6 V.C (oM mu o) o.op (fJ ρ) (bM e)) (fun v e'=>(Nt B e0 e' || sQ ops i) && pY V cf cy mu ops B e0 r (zT ρ o.dst v) e' k kp) kp
     | .bool false=>pY V cf cy mu ops B e0 r (zT ρ o.dst (.aH [])) e k kp
     | _=>false
def Qc (V:jd) (o:Oper):Bool:=match o.op with
 | .call c=>match c.callee with
   | .value (.func f)=>V.pf f
   | .value _=>false
   | _=>quiet o.op
 | op=>quiet op
def zH (V:jd) (ops:Array Oper):Nat->Array Bool->List (Bool × Nat)
 | 0,_=>[]
 | n+1,listed=>match (Region.ready .any ops listed).find? fun i=>match ops[i]? with | some o=>Qc V o | none=>false with
   | some i=>(true,i)::zH V ops n (listed.setIfInBounds i true)
   | none=>match Region.ready .any ops listed with
     | i::_=>(false,i)::zH V ops n (listed.setIfInBounds i true)
     | []=>[]
def preB (V:jd) (mu:List Nat) (e0:ES):List Oper->T AV->List Nat->List Nat
 | [],_,B=>B
 | o::r,ρ,B=>preB V mu e0 r (zT ρ o.dst (cond (Qc V o) ((LM V (j6 V.C (oM mu o) o.op (fJ ρ) (bM e0))).getD .any) .any)) (cond (pG o.op) (o.op.operands.toList.flatMap (fun x=>eL ((fJ ρ).ev V.C x))++B) B)
def M0 (P:Program) (ty:TypeId) (p:AV) (U:St):Option AV:=match u7 P ty p U with
 | .val v=>some v
 | @aD.cond q d (.val v)=>cond (@decide q d) (some v) none
 | _=>none
def Ce (P:Program) (ρ:Env) (U:St):List ResultVar->Option (List AV)
 | []=>some []
 | .tmp t::rs=>(Ce P ρ U rs).map fun vs=>ρ.get t::vs
 | .cell t ty::rs=>match M0 P ty (ρ.get t) U with
   | some v=>(Ce P ρ U rs).map fun vs=>v::vs
   | none=>none
abbrev uP:=Nat->List Nat->Nat->Ro->Code->T AV->ES->KC->Bool
def To (P:Program) (fn:Func) (k:KR):KC:=fun ex ρ e=>match ex with
 | .normal | .ret=>match Ce P (fJ ρ) (bM e) fn.results.toList with
   | some vs=>k (.ret (vV vs)) e
   | none=>false
 | .panic x=>k (.panic x) e
 | .exit _=>false
def Jt (ft:TypeId) (a:Nat) (k:KR):KR
 | .ret v,e=>match (bM e).box a,(bM e).box (a+1),(bM e).box (a+2) with
   | some [_],some [_],some [_]=>v.scalar && k (.ret (.aH [v,.int .i64 0,.bool true])) (((e.set a (.box [v])).set (a+1) (.box [.int .i64 0])).set (a+2) (.box [.bool true]))
   | _,_,_=>false
 | .panic x,e=>match x,(bM e).box a,(bM e).box (a+1),(bM e).box (a+2) with
   | .iface t (.agg [.int .i64 at_]),some [_],some [_],some [_]=>Nat.beq t ft && k (.ret (.aH [.aY,.int .i64 at_,.bool false])) ((((e.new (.box [.int .i64 at_])).set a (.box [.aY])).set (a+1) (.box [.int .i64 at_])).set (a+2) (.box [.bool false]))
   | _,_,_,_=>false
def Gy (V:jd) (ev:uP):tH:=fun f args e k =>
 match V.sm f args with
 | some x=>k (.ret x) e
 | none=>match V.Xh f args e with
   | some (x,e')=>k (.ret x) e'
   | none=>match V.C.P.funcs[f]? with
     | some fn=>match fn.body with
       | some c=>Nat.ble args.length fn.ntmps && ev fn.ntmps (V.mu f) f .fn c (T.Lp args 0 .e) e (To V.C.P fn k)
       | none=>false
     | none=>false
def abX (e:ES):ES:=((e.new (.box [.aY])).new (.box [.int .i64 0])).new (.box [.bool false])
def tK (V:jd) (ev:uP):tH:=fun f args e k =>
 cond (V.tr f) (match args with
  | [_,.func (.func g) first cap]=>eX V.C.P g && Gy V ev g (first++cap) (abX e) (Jt V.ft e.n k)
  | _=>false) (Gy V ev f args e k)
def endRound (o:Nat) (k:KR):KC:=fun ex _ e=>match (bM e).loop o with
 | some L=>match ex with
   | .normal=>k (.ret (.bool true)) (e.set o (.loop { L with state:=.ready,fZ:=none }))
   | .ret=>k (.ret (.bool false)) (e.set o (.loop { L with state:=.done,fZ:=some .ret }))
   | .exit id=>k (.ret (.bool false)) (e.set o (.loop { L with state:=.done,fZ:=some (.exit id) }))
   | .panic _=>false
 | none=>false
def isReady:LoopState->Bool
 | .ready=>true
 | _=>false
def Pn:LoopState->Bool
 | .busy=>true
 | _=>false
def sC (f:Nat->AV):Nat->T AV->T AV
 | 0,t=>t
 | n+1,t=>sC f n (t.set n (some (f n)))
def xg (V:jd) (ev:uP):tH:=fun o args e k =>
 match (bM e).loop o with
 | some L=>Nat.beq args.length L.params.size && L.params.toList.all (fun t=>Nat.blt t L.nt) &&
   ev L.nt (V.mu L.tag) L.tag (.round o) L.assign (sC (x9 L.ρ L.params.toList args) L.nt .e) e (fun ex ρ e=>match ex with
    | .normal=>match (bM e).loop o with
      | some L'=>isReady L'.state && ev L.nt (V.mu L.tag) L.tag (.round o) L.body ρ (e.set o (.loop { L' with state:=.busy })) (endRound o k)
      | none=>false
    | _=>false)
 | none=>false
def Hp (o:Nat) (ρ:T AV) (k:KC):KR
 | .ret _,e=>match (bM e).loop o with
   | some L=>!Pn L.state && (match L.fZ with
     | none=>k .normal ρ (e.del o)
     | some .ret=>k .ret ρ (e.del o)
     | some (.exit id)=>k (.exit id) ρ (e.del o)
     | _=>false)
   | none=>false
 | .panic x,e=>k (.panic x) .e e
def Ud (V:jd) (ops:Array Oper) (B:List Nat) (I:oH) (ρ:T AV) (e:ES) (k:T AV->ES->Bool):Bool:=match (fJ ρ).get I.m with
 | .mp id=>(match (bM e).mp id with | some ([],[])=>true | _=>false) && (B.all (fun b=>!Nat.beq b id) && k ρ (e.set id (.mp (p8 I.kk (oC V.C ops (fJ ρ) I) ([],[])).1 (p8 I.kk (oC V.C ops (fJ ρ) I) ([],[])).2)))
 | _=>false
def oR (V:jd):Nat->uP
 | 0=>fun _ _ _ _ _ _ _ _=>false
 | n+1=>fun nt mu tag ro c ρ e k =>
   match c with
   | .skip=>k .normal ρ e
   | .exit id=>k (.exit id) ρ e
   | .ret=>k .ret ρ e
   | .seq a b=>oR V n nt mu tag ro a ρ e fun ex ρ e=>match ex with
     | .normal=>oR V n nt mu tag ro b ρ e k
     | ex=>k ex ρ e
   | .cond x a b=>match (fJ ρ).ev V.C x with
     | .bool true=>oR V n nt mu tag ro a ρ e k
     | .bool false=>oR V n nt mu tag ro b ρ e k
     | _=>false
   | .block id a=>oR V n nt mu tag ro a ρ e fun ex ρ e=>match ex with
     | .exit Br=>cond (Nat.beq Br id) (k .normal ρ e) (k (.exit Br) ρ e)
     | ex=>k ex ρ e
   | .loop a=>oR V n nt mu tag ro a ρ e fun ex ρ e=>match ex with
     | .normal=>oR V n nt mu tag ro (.loop a) ρ e k
     | ex=>k ex ρ e
   | .region _ ops false=>lJ nt ops && CG V (tK V (oR V n)) (xg V (oR V n)) mu ops ops.toList ρ e (fun ρ e=>k .normal ρ e) (fun x e=>k (.panic x) .e e)
   | .region id ops true=>match V.ins tag id with
     | none=>lJ nt ops && (iV ops (zH V ops ops.size (Array.replicate ops.size false)) (Array.replicate ops.size false) && ((zH V ops ops.size (Array.replicate ops.size false)).length == ops.size)) &&
     pY V (tK V (oR V n)) (xg V (oR V n)) mu ops (preB V mu e ops.toList ρ []) e (zH V ops ops.size (Array.replicate ops.size false)) ρ e (fun ρ e=>k .normal ρ e) (fun x e=>k (.panic x) .e e)
     | some (rows,dt,I,post)=>lJ nt ops && (B9 V.C.P ops rows dt I post && pY V (tK V (oR V n)) (xg V (oR V n)) mu ops (preB V mu e ops.toList ρ []) e dt ρ e (fun er e'=>Ud V ops (preB V mu e ops.toList ρ []) I er e' (fun er e'=>pY V (tK V (oR V n)) (xg V (oR V n)) mu ops (preB V mu e ops.toList ρ []) e post er e' (fun ρ e=>k .normal ρ e) (fun x e=>k (.panic x) .e e))) (fun x e=>k (.panic x) .e e))
   | .rangeFunc f ps assign body=>match ro,(fJ ρ).ev V.C f with
     | .fn,.func (.func kM) first cap=>eX V.C.P kM && tK V (oR V n) kM (first++[.rZ e.n]++cap) (e.new (.loop ⟨(fJ ρ).get,nt,ps,assign,body,.ready,none,tag⟩)) (Hp e.n ρ k)
     | _,_=>false
   | _=>false
def kR (k:KR):cR->St->Prop:=fun r U=>∃ e,U=bM e/\k r e=true
def kA (k:AV->ES->Bool):AV->St->Prop:=fun v U=>∃ e,U=bM e/\k v e=true
def kE (k:T AV->ES->Bool):Env->St->Prop:=fun ρ U=>∃ t e,ρ=fJ t/\U=bM e/\k t e=true
def kC (k:KC):Ex->Env->St->Prop
 | .panic x,_,U=>∃ e,U=bM e/\k (.panic x) .e e=true
 | ex,ρ,U=>∃ t e,ρ=fJ t/\U=bM e/\k ex t e=true
def Ju (ft:TypeId) (a b c:Nat) (R:cR->St->Prop):cR->St->Prop
 | .ret v,U=>v.scalar=true/\(∃ x,U.box a=some [x])/\(∃ x,U.box b=some [x])/\(∃ x,U.box c=some [x])/\R (.ret (.aH [v,.int .i64 0,.bool true])) (((U.cg a [v]).cg b [.int .i64 0]).cg c [.bool true])
 | .panic x,U=>∃ at_,x=.iface ft (.agg [.int .i64 at_])/\(∃ x,U.box a=some [x])/\(∃ x,U.box b=some [x])/\(∃ x,U.box c=some [x]) /\
    ∀ q,U.dD q->R (.ret (.aH [.aY,.int .i64 at_,.bool false])) ((((U.new q (.box [.int .i64 at_])).cg a [.aY]).cg b [.int .i64 at_]).cg c [.bool false])
def Ks (C:cQ) (ft:TypeId) (f:Nat):Prop:=∀ r g first cap U R,eX C.P g=true ->
 (∀ a b c,U.dD a->(U.new a (.box [.aY])).dD b->((U.new a (.box [.aY])).new b (.box [.int .i64 0])).dD c ->
   ae C g (first++cap) (((U.new a (.box [.aY])).new b (.box [.int .i64 0])).new c (.box [.bool false])) (Ju ft a b c R))->ae C f [r,.func (.func g) first cap] U R
structure r9 (V:jd):Prop where
 sm:∀ f args x,V.sm f args=some x->Pure V.C f args x
 Xh:∀ f args e x e',V.Xh f args e=some (x,e')->∀ R,R (.ret x) (bM e')->ae V.C f args (bM e) R
 tr:∀ f,V.tr f=true->Ks V.C V.ft f
 mixed:V.C.P.follows .mixedOrders=true
def yU (V:jd) (cf:tH):Prop:=∀ f args e k,cf f args e k=true->ae V.C f args (bM e) (kR k)
def Ai (V:jd) (cy:tH):Prop:=∀ o args e k,cy o args e k=true->mU V.C o args (bM e) (kR k)
def vZ (V:jd) (ev:uP):Prop:=∀ nt mu tag ro c ρ e k,ev nt mu tag ro c ρ e k=true->bH V.C nt ro c (kC k) (fJ ρ) (bM e)
theorem tV {e:ES} {b:Nat} (h:(bM e).dD b):b=e.n:=h.2 _ rfl
theorem On (e:ES) (d:Option Nat):(e.tf d).n=e.n:=by cases d <;> rfl
section
variable {V:jd} {cf cy:tH}
theorem Cg (hf:yU V cf) (hy:Ai V cy) {e:ES} {k kp:AV->ES->Bool}:∀ (r:aD),AK cf cy e r k kp=true->r.wp V.C (bM e) (kA k) (kA kp)
 | .val v,h=>⟨e,rfl,h⟩
 | .iH v b x,h=>⟨e.set b x,(nY e b x).symm,h⟩
 | .new kd del x,h=>fun b hb=>by
   rw [<- SE] at hb ⊢
   have:=tV hb
   rw [On] at this
   subst this
   exact ⟨(e.tf del).new x,by rw [sB,On],h⟩
 | .lW b l,h=>fun p hp=>by
   simp only [AK,fl] at h
   exact ⟨e.set b p.2,(nY e b p.2).symm,h p hp⟩
 | .enter f args,h=>(hf f args e _ h).mono fun r U hr=>by cases r <;> exact hr
 | .yield o args,h=>(hy o args e _ h).mono fun r U hr=>by cases r <;> exact hr
 | .panic v,h=>⟨e,rfl,h⟩
 | @aD.cond p d r,h=>by
   simp only [AK,bX] at h
   exact ⟨@of_decide_eq_true p d h.1,Cg hf hy r h.2⟩
 | .bad,h=>by cases h
theorem XX {ops:Array Oper} {B:List Nat} {I:oH} {k:T AV->ES->Bool} (ρ:T AV) (e:ES) (h:Ud V ops B I ρ e k=true):MJ V.C ops B I (kE k) (fJ ρ) (bM e):=by
 unfold Ud at h
 split at h
 . rename_i id hid
   simp only [bX,fl,Bool.not_eq_true'] at h
   obtain ⟨h1,h2,h3⟩:=h
   split at h1
   . rename_i HU
     refine ⟨id,hid,HU,fun hm=>?_,ρ,_,rfl,(nY e id _).symm,h3⟩
     have:=h2 id hm
     simp at this
   . cases h1
 . cases h
theorem BW (hf:yU V cf) (hy:Ai V cy) {mu:List Nat} {ops:Array Oper} {k:T AV->ES->Bool} {kp:AV->ES->Bool}:∀ (l:List Oper) (ρ:T AV) (e:ES),CG V cf cy mu ops l ρ e k kp=true ->
 pR V.C mu ops l (fJ ρ) (bM e) (kE k) (kA kp)
 | [],ρ,e,h=>⟨ρ,e,rfl,rfl,h⟩
 | o::rest,ρ,e,h=>by
   simp only [CG] at h
   simp only [pR]
   split at h
   . rename_i hg
     rw [hg]
     refine ⟨fun _=>?_,fun h=>(by cases h)⟩
     refine aD.wp_mono ?_ _ (Cg hf hy _ h)
     rintro v U ⟨e',rfl,hk⟩
     have:=BW hf hy rest _ e' hk
     rw [qK] at this
     exact this
   . rename_i hg
     rw [hg]
     refine ⟨fun h=>(by cases h),fun _=>?_⟩
     have:=BW hf hy rest _ e h
     rw [qK] at this
     exact this
   . cases h
theorem SY (hV:r9 V):∀ (r:aD) (v:AV),LM V r=some v->r.yv V.C v
 | .val u,v,h=>by simp only [LM,ja] at h; exact h
 | @aD.cond p d r,v,h=>by
   simp only [LM] at h
   cases hd:@decide p d with
   | false=>rw [hd] at h; cases h
   | true=>rw [hd] at h; exact ⟨@of_decide_eq_true p d hd,SY hV r v h⟩
 | .enter f args,v,h=>hV.sm f args v h
 | .iH _ _ _,v,h=>by cases h
 | .new _ _ _,v,h=>by cases h
 | .lW _ _,v,h=>by cases h
 | .yield _ _,v,h=>by cases h
 | .panic _,v,h=>by cases h
 | .bad,v,h=>by cases h
theorem UL {B:List Nat} {e0 e:ES} (h:Nt B e0 e=true):cY B (bM e0) (bM e):=fun b hb=>by
 unfold Nt at h
 rw [fl] at h
 exact Ou (h b hb)
theorem Mz {C:cQ} {B:List Nat} {ρ:Env} {op:Op} (h:D3 C B ρ op=true):∀ x ∈ op.operands.toList,∀ b ∈ eL (ρ.ev C x),b ∈ B:=fun x hx b hb=>by
 unfold D3 at h
 rw [fl] at h
 have:=h x hx
 rw [fl] at this
 have:=this b hb
 rw [List.any_eq_true] at this
 obtain ⟨c,hc,he⟩:=this
 rw [<- fm he]; exact hc
theorem o8 (hV:r9 V) (hf:yU V cf) (hy:Ai V cy) {mu:List Nat} {ops:Array Oper} {B:List Nat} {e0:ES} {k:T AV->ES->Bool} {kp:AV->ES->Bool}:∀ (l:List (Bool × Nat)) (ρ:T AV) (e:ES),pY V cf cy mu ops B e0 l ρ e k kp=true ->
 mh V.C mu ops B (bM e0) (kE k) (kA kp) l (fJ ρ) (bM e)
 | [],ρ,e,h=>⟨ρ,e,rfl,rfl,h⟩
 | (true,i)::r,ρ,e,h=>by
   simp only [pY] at h
   split at h
   . cases h
   . rename_i o ho
     split at h
     . rename_i hg
       simp only [bX,jM,Bool.not_eq_true'] at h
       obtain ⟨⟨h1,h2⟩,h3⟩:=h
       split at h3
       . rename_i v hv
         refine ⟨o,v,ho,.inl ⟨hg,h1,fun H5=>?_,SY hV _ _ hv⟩,?_⟩
         . rcases h2 with h2 | h2
           . rw [H5] at h2; cases h2
           . exact Mz h2
         . have:=o8 hV hf hy r _ e h3
           rw [qK] at this
           exact this
       . cases h3
     . rename_i hg
       refine ⟨o,.aH [],ho,.inr ⟨hg,rfl⟩,?_⟩
       have:=o8 hV hf hy r _ e h
       rw [qK] at this
       exact this
     . cases h
 | (false,i)::r,ρ,e,h=>by
   simp only [pY] at h
   simp only [mh,lL]
   split at h
   . cases h
   . rename_i o ho
     try rw [ho]
     try dsimp only
     split at h
     . rename_i hg
       rw [hg]
       refine ⟨fun _=>?_,fun h=>(by cases h)⟩
       refine aD.wp_mono ?_ _ (Cg hf hy _ h)
       rintro v U ⟨e',rfl,hk⟩
       simp only [bX] at hk
       refine ⟨?_,?_⟩
       . rw [jM] at hk
         rcases hk.1 with h | h
         . exact .inr (UL h)
         . exact .inl (X9 h)
       have:=o8 hV hf hy r _ e' hk.2
       rw [qK] at this
       exact this
     . rename_i hg
       rw [hg]
       refine ⟨fun h=>(by cases h),fun _=>?_⟩
       have:=o8 hV hf hy r _ e h
       rw [qK] at this
       exact this
     . cases h
theorem vi {C:cQ} {mu:List Nat} {ops:Array Oper} {K K':Env->St->Prop} {Kp yC:AV->St->Prop} (hk:∀ ρ U,K ρ U->K' ρ U) (hp:∀ v U,Kp v U->yC v U):∀ (l:List Oper) {ρ:Env} {U:St},pR C mu ops l ρ U K Kp->pR C mu ops l ρ U K' yC
 | [],_,_,h=>hk _ _ h
 | o::rest,ρ,U,h=>by
   simp only [pR] at h ⊢
   have wpp:∀ (r:aD) {U:St} {X:AV->St->Prop},r.wp C U X Kp->r.wp C U X yC:=fun r=>by
    induction r with
    | val _=>exact fun h=>h
    | iH _ _ _=>exact fun h=>h
    | new _ _ _=>exact fun h=>h
    | lW _ _=>exact fun h=>h
    | enter f args=>exact fun h=>h.mono fun r U hr=>by cases r <;> first | exact hr | exact hp _ _ hr
    | yield o args=>exact fun h=>h.mono fun r U hr=>by cases r <;> first | exact hr | exact hp _ _ hr
    | panic v=>exact fun h=>hp _ _ h
    | cond p r ih=>exact fun h=>⟨h.1,ih h.2⟩
    | bad=>exact fun h=>h
   cases hg:iz ops ρ o.guard <;> rw [hg] at h <;> simp only [aw] at h ⊢
   exact ⟨fun e=>aD.wp_mono (fun v U hv=>vi hk hp rest hv) _ (wpp _ (h.1 e)),fun e=>vi hk hp rest (h.2 e)⟩
theorem Us {P:Program} {ty:TypeId} {p v:AV} {U:St} (h:M0 P ty p U=some v) {k:AV->Prop} (hk:k v):AE P ty p U k:=by
 unfold M0 at h
 unfold AE
 split at h
 . rename_i u hu
   cases h
   first | exact hk | (rw [hu]; exact hk)
 . rename_i q d u hu
   cases hd:@decide q d with
   | false=>rw [hd] at h; cases h
   | true =>
     rw [hd] at h; cases h
     first | exact ⟨@of_decide_eq_true q d hd,hk⟩ | (rw [hu]; exact ⟨@of_decide_eq_true q d hd,hk⟩)
 . cases h
theorem AJ {P:Program} {ρ:Env} {U:St}:∀ (rs:List ResultVar) (vs:List AV) (k:List AV->Prop),Ce P ρ U rs=some vs->k vs->vS P ρ U rs k
 | [],vs,k,h,hk=>by simp only [Ce,ja] at h; subst h; exact hk
 | .tmp t::rs,vs,k,h,hk=>by
   simp only [Ce,pS] at h
   obtain ⟨us,hu,rfl⟩:=h
   exact AJ rs us _ hu hk
 | .cell t ty::rs,vs,k,h,hk=>by
   simp only [Ce] at h
   split at h
   . rename_i v hv
     simp only [pS] at h
     obtain ⟨us,hu,rfl⟩:=h
     exact Us hv (AJ rs us _ hu hk)
   . cases h
theorem Hh (hV:r9 V) {ev:uP} (he:vZ V ev):yU V (Gy V ev):=fun f args e k h=>by
 simp only [Gy] at h
 split at h
 . rename_i x hx
   exact hV.sm f args x hx _ _ ⟨e,rfl,h⟩
 . split at h
   . rename_i x e' hx
     exact hV.Xh f args e x e' hx _ ⟨e',rfl,h⟩
   . split at h
     . rename_i fn hfn
       split at h
       . rename_i c hc
         simp only [bX] at h
         refine ae.Lq hfn hc (Nat.le_of_ble_eq_true h.1) ?_
         have:=he _ _ _ _ _ _ _ _ h.2
         rw [Md] at this
         refine this.mono ?_
         intro ex ρ U hc
         cases ex with
         | normal =>
           obtain ⟨t,e',rfl,rfl,hk⟩:=hc
           simp only [To] at hk
           split at hk
           . rename_i vs zy
             exact AJ _ vs _ zy ⟨_,_,mS.refl _ _,e',rfl,hk⟩
           . cases hk
         | ret =>
           obtain ⟨t,e',rfl,rfl,hk⟩:=hc
           simp only [To] at hk
           split at hk
           . rename_i vs zy
             exact AJ _ vs _ zy ⟨_,_,mS.refl _ _,e',rfl,hk⟩
           . cases hk
         | panic x =>
           obtain ⟨e',rfl,hk⟩:=hc
           exact ⟨e',rfl,hk⟩
         | exit id =>
           obtain ⟨t,e',rfl,rfl,hk⟩:=hc
           cases hk
       . cases h
     . cases h
theorem oG (e:ES) (b:Nat) (l:List AV):(bM e).cg b l=bM (e.set b (.box l)):=(nY e b _).symm
theorem Hi (hV:r9 V) {ev:uP} (he:vZ V ev):yU V (tK V ev):=fun f args e k h=>by
 simp only [tK] at h
 cases O9:V.tr f with
 | false=>rw [O9] at h; exact Hh hV he f args e k h
 | true =>
   rw [O9] at h
   simp only [cond_true] at h
   split at h
   . rename_i r g first cap
     rw [bX] at h
     obtain ⟨uj,h⟩:=h
     refine hV.tr f O9 r g first cap _ _ uj fun a b c ha hb hc=>?_
     have ea:=tV ha
     subst ea
     rw [<- sB] at hb hc ⊢
     have eb:=tV hb
     subst eb
     rw [<- sB] at hc ⊢
     have ec:=tV hc
     subst ec
     rw [<- sB]
     refine (Hh hV he g _ _ _ h).mono ?_
     rintro r U ⟨e',rfl,hk⟩
     cases r with
     | ret v =>
       simp only [Jt] at hk
       split at hk
       . rename_i x y z h1 h2 h3
         rw [bX] at hk
         refine ⟨hk.1,⟨x,h1⟩,⟨y,h2⟩,⟨z,h3⟩,?_⟩
         rw [oG,oG,oG]
         exact ⟨_,rfl,hk.2⟩
       . cases hk
     | panic x =>
       simp only [Jt] at hk
       split at hk
       . rename_i t at_ x y z h1 h2 h3
         simp only [bX] at hk
         have ht:=fm hk.1
         subst ht
         refine ⟨at_,rfl,⟨x,h1⟩,⟨y,h2⟩,⟨z,h3⟩,fun q hq=>?_⟩
         have eq:=tV hq
         subst eq
         rw [<- sB,oG,oG,oG]
         exact ⟨_,rfl,hk.2⟩
       . cases hk
   . cases h
theorem uI (f:Nat->AV):∀ (n:Nat) (t:T AV) (i:Nat),(sC f n t).get i=if i < n then some (f i) else t.get i
 | 0,t,i=>by simp [sC]
 | n+1,t,i=>by
   simp only [sC]
   rw [uI f n,T.tW]
   by_cases h:i < n
   . rw [if_pos h,if_pos (by omega)]
   . rw [if_neg h]
     by_cases e:i=n
     . subst e; simp
     . rw [if_neg e,if_neg (by omega)]
end
end Go.Rip
namespace Go.Rip
open Go.RowKit
theorem bH.env {C:cQ} {nt:Nat} {ro:Ro} {c:Code} {Q:Ex->Env->St->Prop} {ρ er:Env} {U:St} (h1:∀ t,t < nt->er.get t=ρ.get t) (h2:∀ t,nt <= t->er.get t=.aH []) (h:bH C nt ro c Q er U):bH C nt ro c Q ρ U:=by
 intro g w a fr k1 k2 k3 k4 k5
 refine h g w a fr k1 k2 (fun t=>?_) k4 k5
 by_cases ht:t < nt
 . rw [h1 t ht]; exact k3 t
 . rw [h2 t (by omega)]
   have:a.tmps.getD t undef=undef:=by
    rw [Array.getD_eq_getD_getElem?,yc (by omega)]; rfl
   rw [this]; exact vo
section
variable {V:jd}
theorem SX (hV:r9 V) {ev:uP} (he:vZ V ev):Ai V (xg V ev):=fun o args e k h=>by
 simp only [xg] at h
 split at h
 . rename_i L hL
   simp only [bX] at h
   obtain ⟨⟨h1,h2⟩,h3⟩:=h
   refine mU.IL hL (fm h1) (fun t ht=>?_) ?_
   . rw [fl] at h2
     have:=h2 t ht
     simpa [Nat.blt_eq] using this
   . have h4:=he _ _ _ _ _ _ _ _ h3
     refine bH.env (er:=fJ (sC (x9 L.ρ L.params.toList args) L.nt .e)) (fun t ht=>?_) (fun t ht=>?_) ?_
     . simp only [fJ]; rw [uI,if_pos ht]; rfl
     . simp only [fJ]; rw [uI,if_neg (by omega)]; rfl
     . refine h4.mono ?_
       intro ex ρ U hc
       cases ex with
       | normal =>
         obtain ⟨t,e',rfl,rfl,hk⟩:=hc
         dsimp only at hk
         split at hk
         . rename_i L' KL
           simp only [bX] at hk
           refine ⟨L',KL,?_,?_⟩
           . have:=hk.1
             cases hs:L'.state <;> rw [hs] at this <;> first
              | rfl
              | (simp [isReady] at this)
           . have h5:=he _ _ _ _ _ _ _ _ hk.2
             rw [nY] at h5
             refine h5.mono ?_
             intro ex ρ U Be
             cases ex with
             | normal =>
               obtain ⟨t',e2,rfl,rfl,gl⟩:=Be
               simp only [endRound] at gl
               split at gl
               . rename_i L2 OM; exact ⟨L2,OM,_,(nY _ _ _).symm,gl⟩
               . cases gl
             | ret =>
               obtain ⟨t',e2,rfl,rfl,gl⟩:=Be
               simp only [endRound] at gl
               split at gl
               . rename_i L2 OM; exact ⟨L2,OM,_,(nY _ _ _).symm,gl⟩
               . cases gl
             | exit id =>
               obtain ⟨t',e2,rfl,rfl,gl⟩:=Be
               simp only [endRound] at gl
               split at gl
               . rename_i L2 OM; exact ⟨L2,OM,_,(nY _ _ _).symm,gl⟩
               . cases gl
             | panic x =>
               obtain ⟨e2,rfl,gl⟩:=Be
               simp only [endRound] at gl
               split at gl <;> cases gl
         . cases hk
       | exit id=>obtain ⟨t,e',rfl,rfl,hk⟩:=hc; cases hk
       | ret=>obtain ⟨t,e',rfl,rfl,hk⟩:=hc; cases hk
       | panic x=>obtain ⟨e',rfl,hk⟩:=hc; cases hk
 . cases h
theorem Tt (hV:r9 V) (n:Nat) (ihs:∀ m,m < n->vZ V (oR V m)):vZ V (oR V n):=by
 cases n with
 | zero=>intro nt mu tag ro c ρ e k h; cases h
 | succ n =>
   intro nt mu tag ro c ρ e k h
   have ih:=ihs n (Nat.lt_succ_self n)
   have hf:=Hi hV ih
   have hy:=SX hV ih
   by_cases hl:∃ a,c=.loop a
   . obtain ⟨a,rfl⟩:=hl
     refine bH.loop (fun j ρ U=>j <= n+1/\∃ t e,ρ=fJ t/\U=bM e/\oR V j nt mu tag ro (.loop a) t e k=true) (n:=n+1) ⟨cX _,ρ,e,rfl,rfl,h⟩ ?_
     rintro j er ad ⟨hj,t,e',rfl,rfl,hk⟩
     cases j with
     | zero=>cases hk
     | succ j =>
       simp only [oR] at hk
       refine (ihs j (by omega) _ _ _ _ _ _ _ _ hk).mono ?_
       intro ex rT a7 hc
       cases ex with
       | normal =>
         obtain ⟨t2,e2,rfl,rfl,gl⟩:=hc
         exact ⟨j,Nat.lt_succ_self j,by omega,t2,e2,rfl,rfl,gl⟩
       | exit id=>exact hc
       | ret=>exact hc
       | panic x=>exact hc
   simp only [oR] at h
   split at h
   . exact bH.skip ⟨ρ,e,rfl,rfl,h⟩
   . exact bH.exit ⟨ρ,e,rfl,rfl,h⟩
   . exact bH.ret ⟨ρ,e,rfl,rfl,h⟩
   . rename_i a b
     refine bH.seq ((ih _ _ _ _ _ _ _ _ h).mono ?_)
     intro ex er ad hc
     cases ex with
     | normal =>
       obtain ⟨t,e',rfl,rfl,hk⟩:=hc
       exact ih _ _ _ _ _ _ _ _ hk
     | exit id=>exact hc
     | ret=>exact hc
     | panic x=>exact hc
   . rename_i x a b
     split at h
     . rename_i hc; exact bH.adk hc (ih _ _ _ _ _ _ _ _ h)
     . rename_i hc; exact bH.adj hc (ih _ _ _ _ _ _ _ _ h)
     . cases h
   . rename_i id a
     refine bH.block ((ih _ _ _ _ _ _ _ _ h).mono ?_)
     intro ex er ad hc
     cases ex with
     | normal=>exact hc
     | exit Br =>
       obtain ⟨t,e',rfl,rfl,hk⟩:=hc
       simp only [y7]
       dsimp only at hk
       split
       . rename_i hid
         subst hid
         rw [Nat.beq_refl,cond_true] at hk
         exact ⟨t,e',rfl,rfl,hk⟩
       . rename_i hid
         rw [zI hid,cond_false] at hk
         exact ⟨t,e',rfl,rfl,hk⟩
     | ret=>exact hc
     | panic x=>exact hc
   . rename_i a
     exact (hl ⟨a,rfl⟩).elim
   . rename_i id ops
     simp only [bX] at h
     refine bH.region mu h.1 (vi ?_ ?_ _ (BW hf hy _ _ _ h.2))
     . rintro er ad ⟨t,e',rfl,rfl,hk⟩
       exact ⟨t,e',rfl,rfl,hk⟩
     . rintro v ad ⟨e',rfl,hk⟩ er
       exact ⟨e',rfl,hk⟩
   . rename_i id ops
     split at h
     . simp only [bX] at h
       refine bH.tQ mu _ _ hV.mixed h.1.1 (by rw [bX]; exact h.1.2) (jW ?_ ?_ _ (o8 hV hf hy _ _ _ h.2))
       . rintro er ad ⟨t,e',rfl,rfl,hk⟩
         exact ⟨t,e',rfl,rfl,hk⟩
       . rintro v ad ⟨e',rfl,hk⟩ er
         exact ⟨e',rfl,hk⟩
     . rename_i rows dt I post _
       simp only [bX] at h
       have VZ:∀ v U,kA (fun x e=>k (.panic x) .e e) v U->yD (kC k) v U:=by
        rintro v ad ⟨e',rfl,hk⟩ er
        exact ⟨e',rfl,hk⟩
       refine bH.Qe (B:=preB V mu e ops.toList ρ []) (mu:=mu) dt I post hV.mixed h.1 (Kd h.2.1) (jW ?_ VZ _ (o8 hV hf hy _ _ _ h.2.2))
       rintro er ad ⟨t,e',rfl,rfl,hk⟩
       obtain ⟨Br,q1,q2,q3,t2,e2,q4,q5,q6⟩:=XX t e' hk
       refine ⟨Br,q1,q2,q3,?_⟩
       have key:=jW (K':=KQ (kC k)) (by
        rintro rT a7 ⟨t3,e3,rfl,rfl,hk⟩
        exact ⟨t3,e3,rfl,rfl,hk⟩) VZ _ (o8 hV hf hy _ _ _ q6)
       rw [<- q4,<- q5] at key
       exact key
   . rename_i f ps assign body
     split at h
     . rename_i kM first cap hfn
       simp only [bX] at h
       refine bH.rangeFunc tag hfn h.1 fun o ho=>?_
       have:=tV ho
       subst this
       rw [<- sB]
       refine (hf _ _ _ _ h.2).mono ?_
       rintro r U ⟨e',rfl,hk⟩
       cases r with
       | ret v =>
         simp only [Hp] at hk
         split at hk
         . rename_i L hL
           simp only [bX,Bool.not_eq_true'] at hk
           refine ⟨L,hL,fun hb=>?_,?_⟩
           . rw [hb] at hk; simp [Pn] at hk
           . have gl:=hk.2
             rw [<- Cj]
             split at gl
             . rename_i hp; try rw [hp]
               exact ⟨_,_,rfl,rfl,gl⟩
             . rename_i hp; try rw [hp]
               exact ⟨_,_,rfl,rfl,gl⟩
             . rename_i id hp; try rw [hp]
               exact ⟨_,_,rfl,rfl,gl⟩
             . cases gl
         . cases hk
       | panic x=>exact ⟨e',rfl,hk⟩
     . cases h
   . cases h
theorem aaE (hV:r9 V) (n:Nat):vZ V (oR V n):=by
 induction n using Nat.strongRecOn with
 | _ n ih=>exact Tt hV n ih
theorem aaF {V:jd} (hV:r9 V) (n f:Nat) (args:List AV) (e:ES) (k:KR) (h:tK V (oR V n) f args e k=true):ae V.C f args (bM e) (kR k):=Hi hV (aaE hV n) f args e k h
end
end Go.Rip
namespace Go.Rip
open Go.RowKit
mutual
def closed:AV->Bool
 | .box _ _ | .ms _ _ _ _ _ | .mp _ | .rZ _ | .it _=>false
 | .vec _ (.own _) _=>false
 | .vec _ _ l=>cA l
 | .cN l=>cA l
 | .fY ks vs=>cA ks && cA vs
 | .func _ a b=>cA a && cA b
 | .iface _ v=>closed v
 | .agg l=>cA l
 | .aH l=>cA l
 | _=>true
def cA:List AV->Bool
 | []=>true
 | x::xs=>closed x && cA xs
end
mutual
theorem az.closed {g g':Gh} (hi:∀ b o x,g.cB b o=some x->g'.cB b o=some x) (hm:∀ b x,g.ca b=some x->g'.ca b=some x):∀ (x:AV) (v:Value),closed x=true->az g x v->az g' x v
 | .bool _,_,_,hr=>hr
 | .int _ _,_,_,hr=>hr
 | .str _,_,_,hr=>hr
 | .aY,_,_,hr=>hr
 | .ah,_,_,hr=>hr
 | .jE,_,_,hr=>hr
 | .dV,_,_,hr=>hr
 | .dr,_,_,hr=>hr
 | .box _ _,_,hc,_=>by cases hc
 | .ms _ _ _ _ _,_,hc,_=>by cases hc
 | .mp _,_,hc,_=>by cases hc
 | .rZ _,_,hc,_=>by cases hc
 | .it _,_,hc,_=>by cases hc
 | .cN l,_,hc,hr=>by
   simp only [az] at hr ⊢
   obtain ⟨aI,off,vs,hv,h1,h2⟩:=hr
   exact ⟨aI,off,vs,hv,fun i u hu=>hi _ _ _ (h1 i u hu),aA.closed hi hm l vs hc h2⟩
 | .vec n cap l,_,hc,hr=>by
   simp only [az] at hr ⊢
   obtain ⟨aI,off,c,vs,hv,h1,h2,h3,h4,h5⟩:=hr
   cases cap with
   | own τ=>cases hc
   | full=>exact ⟨aI,off,c,vs,hv,h1,h2,h3,fun i u hu=>hi _ _ _ (h4 i u hu),aA.closed hi hm l vs hc h5⟩
   | iE=>exact ⟨aI,off,c,vs,hv,h1,h2,trivial,fun i u hu=>hi _ _ _ (h4 i u hu),aA.closed hi hm l vs hc h5⟩
 | .fY ks vs,_,hc,hr=>by
   simp only [az] at hr ⊢
   simp only [Go.Rip.closed,bX] at hc
   obtain ⟨r,es,c,l,hv,he,hp,hs,h1,h2⟩:=hr
   exact ⟨r,es,c,l,hv,hm _ _ he,hp,hs,aA.closed hi hm ks _ hc.1 h1,aA.closed hi hm vs _ hc.2 h2⟩
 | .func fn first captured,_,hc,hr=>by
   simp only [az] at hr ⊢
   simp only [Go.Rip.closed,bX] at hc
   obtain ⟨fs,cs,hv,h1,h2⟩:=hr
   exact ⟨fs,cs,hv,aA.closed hi hm first _ hc.1 h1,aA.closed hi hm captured _ hc.2 h2⟩
 | .iface t x,_,hc,hr=>by
   simp only [az] at hr ⊢
   obtain ⟨u,hv,h1⟩:=hr
   exact ⟨u,hv,az.closed hi hm x _ hc h1⟩
 | .agg l,_,hc,hr=>by
   simp only [az] at hr ⊢
   obtain ⟨vs,hv,h0,h1⟩:=hr
   exact ⟨vs,hv,h0,aA.closed hi hm l _ hc h1⟩
 | .aH l,_,hc,hr=>by
   simp only [az] at hr ⊢
   obtain ⟨vs,hv,h1⟩:=hr
   exact ⟨vs,hv,aA.closed hi hm l _ hc h1⟩
 | .any,_,_,_=>by simp only [az]
theorem aA.closed {g g':Gh} (hi:∀ b o x,g.cB b o=some x->g'.cB b o=some x) (hm:∀ b x,g.ca b=some x->g'.ca b=some x):∀ (l:List AV) (vs:List Value),cA l=true->aA g l vs->aA g' l vs
 | [],_,_,hr=>by simpa only [aA] using hr
 | x::xs,_,hc,hr=>by
   simp only [aA] at hr ⊢
   simp only [cA,bX] at hc
   obtain ⟨u,us,hv,h1,h2⟩:=hr
   exact ⟨u,us,hv,az.closed hi hm x _ hc.1 h1,aA.closed hi hm xs _ hc.2 h2⟩
end
def resolve:Nat->St->AV->AV
 | 0,_,_=>.any
 | n+1,U,x=>match x with
   | .box b off=>match U.box b with
     | some l=>.cN ((l.map (resolve n U)).drop off)
     | none=>.any
   | .ms b off k _ _=>match U.box b with
     | some l=>.vec k .iE ((l.map (resolve n U)).drop off)
     | none=>.any
   | .mp m=>match U.mp m with
     | some (ks,vs)=>.fY ks (vs.map (resolve n U))
     | none=>.any
   | .vec k .full l=>.vec k .full (l.map (resolve n U))
   | .vec k _ l=>.vec k .iE (l.map (resolve n U))
   | .cN l=>.cN (l.map (resolve n U))
   | .fY ks vs=>.fY ks (vs.map (resolve n U))
   | .func f a b=>.func f (a.map (resolve n U)) (b.map (resolve n U))
   | .iface t v=>.iface t (resolve n U v)
   | .agg l=>.agg (l.map (resolve n U))
   | .aH l=>.aH (l.map (resolve n U))
   | .rZ _ | .it _=>.any
   | x=>x
noncomputable def Gh.all (g:Gh) (w:World):Gh :=
 { g with
  cB:=fun q o=>if g.base <= q then (match w.cell? ⟨q,o,none⟩ with | some u=>if u.oneCell'=true then some u else none | none=>none) else g.cB q o
  ca:=fun q=>if g.base <= q then (match w.heap[q]? with | some (.map es c)=>if h:(open Classical in decide (lf es c))=true then some (es,c) else none | _=>none) else g.ca q }
theorem Kt {g:Gh} {w:World} {q o:Nat} {u:Value} (hq:g.base <= q) (hc:w.cell? ⟨q,o,none⟩=some u) (h1:u.oneCell'=true):(g.all w).cB q o=some u:=by
 show (if _ then _ else _)=_
 rw [if_pos hq,hc]; simp [h1]
theorem G4 {g:Gh} {w:World} {q:Nat} {es:Array MapEntry} {c:Nat} (hq:g.base <= q) (hc:w.heap[q]?=some (.map es c)) (h1:lf es c):(g.all w).ca q=some (es,c):=by
 show (if _ then _ else _)=_
 rw [if_pos hq,hc]; simp [h1]
theorem bo.C7 {g:Gh} {U:St} {w:World} (h:bo g U w):Gh.Le g (g.all w):=by
 refine ⟨rfl,rfl,fun _ _ h=>h,fun b o x hx=>?_,fun b x hx=>?_,fun _ h=>h,fun b o hb=>?_,fun b hb=>?_⟩
 . by_cases hq:g.base <= b
   . exact Kt hq (h.cB _ _ _ hx).1 (h.cB _ _ _ hx).2
   . show (if _ then _ else _)=_
     rw [if_neg hq]; exact hx
 . by_cases hq:g.base <= b
   . exact G4 hq (h.ca _ _ _ hx).1 (h.ca _ _ _ hx).2
   . show (if _ then _ else _)=_
     rw [if_neg hq]; exact hx
 . show (if _ then _ else _)=_
   rw [if_neg (by omega)]
 . show (if _ then _ else _)=_
   rw [if_neg (by omega)]
theorem xk {g:Gh} {U:St} {w:World} (h:bo g U w) (q o:Nat) (u:Value) (hu:(g.all w).cB q o=some u):w.cell? ⟨q,o,none⟩=some u/\u.oneCell'=true:=by
 have hu:(if g.base <= q then (match w.cell? ⟨q,o,none⟩ with | some u=>if u.oneCell'=true then some u else none | none=>none) else g.cB q o)=some u:=hu
 split at hu
 . split at hu
   . rename_i x hx
     split at hu
     . cases hu; exact ⟨hx,by assumption⟩
     . cases hu
   . cases hu
 . exact h.cB _ _ _ hu
theorem vC {g:Gh} {U:St} {w:World} (h:bo g U w) (q:Nat) (es:Array MapEntry) (c:Nat) (hu:(g.all w).ca q=some (es,c)):w.heap[q]?=some (.map es c)/\lf es c:=by
 have hu:(if g.base <= q then (match w.heap[q]? with | some (.map es c)=>if h:(open Classical in decide (lf es c))=true then some (es,c) else none | _=>none) else g.ca q)=some (es,c):=hu
 split at hu
 . split at hu
   . rename_i wi c' hx
     split at hu
     . rename_i hb
       cases hu; exact ⟨hx,by simpa using hb⟩
     . cases hu
   . cases hu
 . exact h.ca _ _ _ hu
theorem Cc {g g':Gh} {f:AV->AV}:∀ {l:List AV} {vs:List Value},(∀ x v,x ∈ l->az g x v->az g' (f x) v)->aA g l vs->aA g' (l.map f) vs
 | [],_,_,h=>by simpa only [aA,nu] using h
 | x::xs,_,hf,h=>by
   simp only [aA,eC] at h ⊢
   obtain ⟨u,us,hv,h1,h2⟩:=h
   exact ⟨u,us,hv,hf x u (by simp) h1,Cc (fun y v hy=>hf y v (by simp [hy])) h2⟩
theorem BG {g:Gh} {U:St} {w:World} (h:bo g U w):∀ (n:Nat) (x:AV) (v:Value),az g x v->az (g.all w) (resolve n U x) v:=by
 intro n
 induction n with
 | zero=>intro x v _; simp only [resolve,az]
 | succ n ih =>
   intro x v hr
   have hl:=h.C7
   have um:∀ {l:List AV} {vs:List Value},aA g l vs->aA (g.all w) (l.map (resolve n U)) vs:=fun h=>Cc (fun y v _ hy=>ih y v hy) h
   have hi:∀ {aI off:Nat} {vs:List Value},lU g aI off vs->lU (g.all w) aI off vs:=fun h=>h.mono hl
   have box:∀ {b off:Nat} {l:List AV} {p:Place},U.box b=some l->g.place b=some p->∃ vs,lU (g.all w) p.aI off vs/\aA (g.all w) ((l.map (resolve n U)).drop off) vs:=fun {b off l p} hb hp=>by
    obtain ⟨x',cur,vs,rest,k1,k2,k3,k4,k5,k6,k7,k8⟩:=h.box b l hb
    have k1:g.place b=some x':=k1
    rw [hp] at k1; cases k1
    refine ⟨vs.drop off,fun i u hu=>?_,(um k6).drop off⟩
    rw [List.getElem?_drop] at hu
    have aQ:off+i < vs.length:=by
     rcases jL (off+i) vs.length with h | h
     . exact h
     . simp [uE h] at hu
    have hc:cur[off+i]?=some u:=by rw [<- lA,k5,vR aQ]; exact hu
    exact Kt k2 (by rw [cell_of_row _ _ _ cur p.e (0,0) k3]; exact hc) (k7 u (gh (by rw [lA]; exact hc)))
   cases x with
   | box b off =>
     simp only [resolve]
     cases hb:U.box b with
     | none=>simp only [az]
     | some l =>
       simp only [az] at hr ⊢
       obtain ⟨p,hp,rfl⟩:=hr
       obtain ⟨vs,h1,h2⟩:=box (off:=off) hb hp
       exact ⟨p.aI,off,vs,rfl,h1,h2⟩
   | ms b off k jr e =>
     simp only [resolve]
     cases hb:U.box b with
     | none=>simp only [az]
     | some l =>
       simp only [az] at hr ⊢
       obtain ⟨p,c,hp,rfl,q1,q2,_⟩:=hr
       obtain ⟨vs,h1,h2⟩:=box (off:=off) hb hp
       exact ⟨p.aI,off,c,vs,rfl,q1,q2,trivial,h1,h2⟩
   | mp m =>
     simp only [resolve]
     cases hm:U.mp m with
     | none=>simp only [az]
     | some kv =>
       obtain ⟨ks,vs⟩:=kv
       simp only [az] at hr ⊢
       obtain ⟨r,hr,rfl⟩:=hr
       obtain ⟨r',es,clock,q1,q2,q3,qb,⟨l,q4,q5,q6,q7⟩,q8⟩:=h.mp m _ hm
       rw [hr] at q1; cases q1
       exact ⟨r,es,clock,l,rfl,G4 q2 q3 qb,q4,q5,q6.mono hl,um q7⟩
   | vec k c l =>
     simp only [az] at hr
     obtain ⟨aI,off,c',vs,rfl,h1,h2,h3,h4,h5⟩:=hr
     cases c with
     | full=>simp only [resolve,az]; exact ⟨aI,off,c',vs,rfl,h1,h2,h3,hi h4,um h5⟩
     | own τ=>simp only [resolve,az]; exact ⟨aI,off,c',vs,rfl,h1,h2,trivial,hi h4,um h5⟩
     | iE=>simp only [resolve,az]; exact ⟨aI,off,c',vs,rfl,h1,h2,trivial,hi h4,um h5⟩
   | cN l =>
     simp only [resolve,az] at hr ⊢
     obtain ⟨aI,off,vs,rfl,h1,h2⟩:=hr
     exact ⟨aI,off,vs,rfl,hi h1,um h2⟩
   | fY ks vs =>
     simp only [resolve,az] at hr ⊢
     obtain ⟨r,es,c,l,rfl,he,hp,hs,h1,h2⟩:=hr
     exact ⟨r,es,c,l,rfl,hl.ca _ _ he,hp,hs,h1.mono hl,um h2⟩
   | func f a b =>
     simp only [resolve,az] at hr ⊢
     obtain ⟨fs,cs,rfl,h1,h2⟩:=hr
     exact ⟨fs,cs,rfl,um h1,um h2⟩
   | iface t x =>
     simp only [resolve,az] at hr ⊢
     obtain ⟨u,rfl,h1⟩:=hr
     exact ⟨u,rfl,ih _ _ h1⟩
   | agg l =>
     simp only [resolve,az] at hr ⊢
     obtain ⟨vs,rfl,h0,h1⟩:=hr
     exact ⟨vs,rfl,h0,um h1⟩
   | aH l =>
     simp only [resolve,az] at hr ⊢
     obtain ⟨vs,rfl,h1⟩:=hr
     exact ⟨vs,rfl,um h1⟩
   | rZ o=>simp only [resolve,az]
   | it o=>simp only [resolve,az]
   | any=>simp only [resolve,az]
   | bool b=>simp only [resolve]; exact hr.mono hl
   | int k n=>simp only [resolve]; exact hr.mono hl
   | str s=>simp only [resolve]; exact hr.mono hl
   | aY=>simp only [resolve]; exact hr.mono hl
   | ah=>simp only [resolve]; exact hr.mono hl
   | jE=>simp only [resolve]; exact hr.mono hl
   | dV=>simp only [resolve]; exact hr.mono hl
   | dr=>simp only [resolve]; exact hr.mono hl
theorem Pure.AG {C:cQ} {f:Nat} {args:List AV} {x:AV} (CT:∀ i,closed (C.zl i)=true) (hargs:cA args=true) (hx:closed x=true) (d:Nat)
 (h:ae C f args (bM ⟨.e,0⟩) (fun r U=>∃ v,r=.ret v/\resolve d U v=x)):Pure C f args x:=by
 intro U R hR g w vs hs hG ha
 let g0:Gh:={ base:=w.heap.size,w0:=w,place:=fun _=>none,cB:=g.cB,ca:=g.ca,res:=fun _=>false }
 have wH:bo g0 (bM ⟨.e,0⟩) w:={
  below:=Below.refl _ _
  le:=cX _
  cB:=hs.cB
  ca:=hs.ca
  live:=fun b x hb=>by cases hb
  apart:=fun b b' x x' p p' hb=>by cases hb
  res:=fun r hr=>by cases hr
  fin:=⟨0,fun n hn=>by cases hn; rfl,fun _ _=>rfl⟩ }
 have OL:iL C g0:=⟨fun i=>az.closed (g:=g) (g':=g0) (fun _ _ _ h=>h) (fun _ _ h=>h) _ _ (CT i) (hG.1 i),fun i cs hi=>by
  obtain ⟨k1,t,fr,k2⟩:=hG.2 i cs hi
  refine ⟨Nat.lt_of_lt_of_le k1 hs.le,t,fr,?_⟩
  show w.heap[i]?=_
  rw [hs.below.block i k1]; exact k2⟩
 have ha0:aA g0 args vs:=aA.closed (g:=g) (g':=g0) (fun _ _ _ h=>h) (fun _ _ h=>h) _ _ hargs ha
 refine (h g0 w vs wH OL ha0).mono ?_
 rintro e w' hp
 cases e with
 | panicked ch=>obtain ⟨g',ad,y,v,_,_,_,_,z,hz,_⟩:=hp; cases hz
 | outgrown=>exact hp.elim
 | returned v =>
   obtain ⟨g',ad,y,h1,h2,h3,z,hz,hres⟩:=hp
   cases hz
   have cm:=BG h2 d y v h3
   rw [hres] at cm
   have uk:=h2.C7
   have hle:=h1.trans uk
   have agF:g'.base=w.heap.size:=h1.base
   have xv:Below w.heap.size w w':=by
    have:=h2.below
    rw [h1.base,h1.w0] at this
    exact this
   let gF:Gh:={ base:=g.base,w0:=g.w0,place:=g.place,cB:=(g'.all w').cB,ca:=(g'.all w').ca,res:=g.res }
   have HQ:Gh.Le g gF:=⟨rfl,rfl,fun _ _ h=>h,fun b o u hu=>hle.cB b o u hu,fun b u hu=>hle.ca b u hu,fun _ h=>h,
    fun b o hb=>hle.zz b o (by show b < w.heap.size; have:=hs.le; omega),fun b hb=>hle.wK b (by show b < w.heap.size; have:=hs.le; omega)⟩
   refine ⟨gF,U,x,HQ,?_,az.closed (g:=g'.all w') (g':=gF) (fun _ _ _ h=>h) (fun _ _ h=>h) x v hx cm,hR⟩
   exact {
    below:=hs.below.trans (xv.mono hs.le)
    le:=Nat.le_trans hs.le xv.size
    cB:=fun q o u hu=>xk h2 q o u hu
    ca:=fun q es c hu=>vC h2 q es c hu
    live:=fun b l hb=>by
     obtain ⟨p,k1,k2,k3⟩:=hs.live b l hb
     have aQ:=k3.lt
     exact ⟨p,k1,k2,k3.frame HQ.r (xv.block _ aQ) (fun o=>hle.zz _ o aQ) (hle.wK _ aQ)⟩
    apart:=hs.apart
    res:=fun r hr=>by
     obtain ⟨k1,k2⟩:=hs.res r hr
     exact ⟨k1,by rw [xv.block _ (lz.1 k2).1]; exact k2⟩
    fin:=hs.fin }
def adW (d:Nat) (x:AV):KR
 | .ret v,e=>jJ (resolve d (bM e) v) x
 | .panic _,_=>false
theorem Pure.fN {V:jd} (hV:r9 V) (n d:Nat) {f:Nat} {args:List AV} {x:AV} (CT:∀ i,closed (V.C.zl i)=true) (h:(cA args && closed x && tK V (oR V n) f args ⟨.e,0⟩ (adW d x))=true):Pure V.C f args x:=by
 simp only [bX] at h
 refine Pure.AG CT h.1.1 h.1.2 d ((aaF hV n f args ⟨.e,0⟩ _ h.2).mono ?_)
 rintro r U ⟨e,rfl,hk⟩
 cases r with
 | ret v=>exact ⟨v,rfl,wh hk⟩
 | panic v=>cases hk
end Go.Rip
namespace Go.Rip
open Go.RowKit
def VM (R:St->Prop):Ex->Env->St->Prop
 | .normal,_,U=>R U
 | .ret,_,U=>R U
 | _,_,_=>False
theorem YH {C:cQ} {f:FuncId} {fn:Func} {id:Nat} {o:Oper} {d:Nat} {rest:Code} {args:List AV} {U:St} {g:Gh} {w:World} {vs:List Value}
 (hf:C.P.funcs[f]?=some fn) (hb:fn.body=some (.seq (.region id #[o] false) rest)) (hres:fn.results=#[]) (hop:∀ ev w,(execOp ev o).run C.P w=.ok .recover w) (hd:o.dst=some d) (hdn:d < fn.ntmps) (hg:o.guard=none)
 (hlen:args.length <= fn.ntmps) (hs:bo g U w) (hG:iL C g) (ha:aA g args vs) {x:AV} {v:Value} {u u':FrameMode} (hx:az g x v)
 (hu:(u=.returning/\v=.nilIface/\u'=.returning)\/(u=.panicking [{ v,recovered:=false }]/\u'=.panicking [{ v,recovered:=true }])) (R:St->Prop)
 (h:bH C fn.ntmps .bare rest (VM R) ((Env.j0 args).put d x) U) :
 CallsDIn Fence.wide 0 C.P f vs.toArray u w (fun e u2 w'=>∃ v',e=.returned v'/\u2=u'/\∃ g' ad,Gh.Le g g'/\bo g' ad w'/\R ad):=by
 refine callsDIn_of_wpSIn hf hb trivial fun Hl cs hm=>?_
 refine wpSIn_seq (wpSIn_region ?_)
 have hl:=ha.length
 have eP:(vs.toArray++Array.replicate (fn.ntmps - vs.toArray.size) undef).size=fn.ntmps:=by simp; omega
 have D4:hY g (Env.j0 args) (vs.toArray++Array.replicate (fn.ntmps - vs.toArray.size) undef):=BQ args vs _ ha
 have afs:=D4.put (d:=d) (by rw [eP]; exact hdn) hx
 have after:∀ CF,(CF={ Hl with mode:=u' }::cs)->rest.wpSIn Fence.wide 0 C.P (bodyPostS C.P fn Hl cs fun e u2 w'=>∃ v',e=.returned v'/\u2=u'/\∃ g' ad,Gh.Le g g'/\bo g' ad w'/\R ad)
  (Act.put { tmps:=vs.toArray++Array.replicate (fn.ntmps - vs.toArray.size) undef,defers:=[] } o.dst v) CF w:=fun CF ui=>by
  refine wpSIn_of_wpIn rfl ?_
  have:=h g w (Act.put { tmps:=vs.toArray++Array.replicate (fn.ntmps - vs.toArray.size) undef,defers:=[] } o.dst v) none hs hG (by rw [hd]; exact afs) (by rw [(pj _ _ _).2]; exact eP) trivial
  refine wpIn_mono this ?_
  rintro e a w' ⟨q1,g',ad,er,ms,q2,q3,q4,q5,q6,q7⟩
  have zt:ms=[]:=q3.none rfl
  subst zt
  rw [(pj _ _ _).1] at q2
  simp only [nu,jN] at q2
  have hr:∀ tmps,(results fn tmps).run C.P w'=.ok (.tuple #[]) w':=fun tmps=>by
   unfold results
   rw [hres]
   simp
  cases e with
  | normal=>exact ⟨q2,u',ui,_,hr _,_,rfl,rfl,g',ad,q4,q5,q7⟩
  | ret=>exact ⟨q2,u',ui,_,hr _,_,rfl,rfl,g',ad,q4,q5,q7⟩
  | exit id=>exact q7.elim
  | panic ch=>obtain ⟨_,_,_,_,hf⟩:=q7; exact hf.elim
  | goto l=>exact q7.elim
  | outgrown=>exact q7.elim
 have hw:Region.wanted o (yielded #[o] (vs.toArray++Array.replicate (fn.ntmps - vs.toArray.size) undef))=true:=by simp [Region.wanted,hg]
 show wpOpsSIn Fence.wide 0 C.P #[o] _ [0] _ _ _
 simp only [wpOpsSIn,List.getElem?_toArray,List.getElem?_cons_zero,hw,if_true,hop]
 refine ⟨fun _ _=>trivial,?_⟩
 rcases hu with ⟨rfl,rfl,rfl⟩ | ⟨rfl,rfl⟩
 . have e1:recoverD (Hl::cs)=none:=by simp [recoverD,hm]
   rw [e1]
   exact after _ (by rw [<- hm])
 . have e1:recoverD (Hl::cs)=some (v,{ Hl with mode:=.panicking [{ v,recovered:=true }] }::cs):=by simp [recoverD,hm]
   rw [e1]
   exact after _ rfl
end Go.Rip
