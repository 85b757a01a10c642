/- Lemmas for the proof: no conditions. -/
import Derived.Test.YtnfpmiiopiinbaaGreatDoorRipZz
import Derived.Test.YtnfpmiiopiinbaaGreatDoorRipA
import Derived.OrdersIn
import Derived.RecoverIn
set_option linter.unusedVariables false
set_option linter.unusedSimpArgs false
set_option linter.loopingSimpArgs false
namespace Go.Rip
open Go.RowKit
inductive cY where
 | ret (x:AV)
 | panic (x:AV)
inductive Ex where
 | normal
 | exit (id:Nat)
 | ret
 | panic (x:AV)
def FW (ro:Option Nat):Fence:={ Fence.wide with round:=ro }
def pH (g:Gh) (R:cY->St->Prop):Ending->World->Prop
 | .returned v,w'=>∃ g' ad x,Gh.Le g g'/\bo g' ad w'/\ay g' x v/\R (.ret x) ad
 | .panicked ch,w'=>∃ g' ad x v,ch=[{ v,recovered:=false }]/\Gh.Le g g'/\bo g' ad w'/\ay g' x v/\R (.panic x) ad
 | .outgrown,_=>False
def ae (C:cS) (f:FuncId) (args:List AV) (U:St) (R:cY->St->Prop):Prop :=
 ∀ g w vs,bo g U w->iU C g->aD g args vs->CallsIn Fence.wide 0 C.P f (List.toArray vs) w (pH g R)
def ni (C:cS) (o:Nat) (args:List AV) (U:St) (R:cY->St->Prop):Prop :=
 ∀ g w vs x,bo g U w->iU C g->aD g args vs->g.place o=some x->∃ fn tmps assign body,(Instr.yield x.aF (List.toArray vs)).run C.P w=.ok (.round x.aF fn tmps assign body) w /\
  RoundIn Fence.wide 0 C.P x.aF fn tmps assign body w (pH g R)
theorem pH.mono {g:Gh} {R R':cY->St->Prop} {e:Ending} {w:World} (h:pH g R e w) (hr:∀ r U,R r U->R' r U):pH g R' e w:=by
 cases e with
 | returned v=>obtain ⟨g',ad,x,h1,h2,h3,h4⟩:=h; exact ⟨g',ad,x,h1,h2,h3,hr _ _ h4⟩
 | panicked ch=>obtain ⟨g',ad,x,v,h0,h1,h2,h3,h4⟩:=h; exact ⟨g',ad,x,v,h0,h1,h2,h3,hr _ _ h4⟩
 | outgrown=>exact h
theorem ae.mono {C:cS} {f:FuncId} {args:List AV} {U:St} {R R':cY->St->Prop} (h:ae C f args U R) (hr:∀ r U,R r U->R' r U):ae C f args U R' :=
 fun g w vs hs hG ha=>(h g w vs hs hG ha).mono fun _ _ hp=>hp.mono hr
theorem ni.mono {C:cS} {f:Nat} {args:List AV} {U:St} {R R':cY->St->Prop} (h:ni C f args U R) (hr:∀ r U,R r U->R' r U):ni C f args U R' :=
 fun g w vs x hs hG ha hx=>let ⟨a,b,c,d,e,r⟩:=h g w vs x hs hG ha hx; ⟨a,b,c,d,e,r.mono fun _ _ hp=>hp.mono hr⟩
def ag (K:AV->St->Prop) (Kp:AV->St->Prop):cY->St->Prop
 | .ret x,U=>K x U
 | .panic x,U=>Kp x U
def aC.wp (C:cS) (U:St) (K:AV->St->Prop) (Kp:AV->St->Prop):aC->Prop
 | .val v=>K v U
 | .jd v b x=>K v (U.set b x)
 | .new k del x=>∀ b,(U.th del).dA b->K (k.at b) ((U.th del).new b x)
 | .mj b l=>∀ p ∈ l,K p.1 (U.set b p.2)
 | .enter f args=>ae C f args U (ag K Kp)
 | .yield l args=>ni C l args U (ag K Kp)
 | .panic v=>Kp v U
 | @aC.cond p _ r=>p/\r.wp C U K Kp
 | .bad=>False
def iB (ops:Array Oper) (ρ:Env):Option (Nat × Bool)->AV
 | none=>.bool true
 | some (j,want)=>match (ops[j]?).bind (·.dst) with
   | some d=>match ρ.get d with
     | .bool b=>.bool (b == want)
     | .aH []=>.bool false
     | _=>.any
   | none=>.any
def av:AV->Prop->Prop->Prop
 | .bool b,A,B=>(b=true->A)/\(b=false->B)
 | _,_,_=>False
def pT (C:cS) (mu:List Nat) (ops:Array Oper):List Oper->Env->St->(Env->St->Prop)->(AV->St->Prop)->Prop
 | [],ρ,U,K,_=>K ρ U
 | o::rest,ρ,U,K,Kp=>av (iB ops ρ o.guard)
    ((kn C (match o.dst with | some d=>mu.contains d | none=>false) o.op ρ U).wp C U (fun v ad=>pT C mu ops rest (ρ.eN o.dst v) ad K Kp) Kp)
    (pT C mu ops rest (ρ.eN o.dst (.aH [])) U K Kp)
def G3 (r:Nat):Deferred:={ target:=.collected r,args:=#[] }
def HO (g:Gh) (Q:Ex->Env->St->Prop) (ρ:Env) (U:St):Exit->Prop
 | .normal=>Q .normal ρ U
 | .exit id=>Q (.exit id) ρ U
 | .ret=>Q .ret ρ U
 | .panic ch=>∃ x v,ch=[{ v,recovered:=false }]/\ay g x v/\Q (.panic x) ρ U
 | .goto _=>False
 | .outgrown=>False
inductive Ro where
 | fn
 | bare
 | round (o:Nat)
def Ro.nm:Ro->Bool
 | .bare=>true
 | _=>false
structure pA (nm:Bool) (g g':Gh) (ms:List Nat):Prop where
 none:nm=true->ms=[]
 nodup:ms.Nodup
 res:∀ r ∈ ms,g'.res r=true/\g.res r=false
theorem mN (nm:Bool) (g g':Gh):pA nm g g' []:=⟨fun _=>rfl,List.nodup_nil,by simp⟩
theorem pA.append {nm:Bool} {g g1 g2:Gh} {m1 m2:List Nat} (h1:pA nm g g1 m1) (h2:pA nm g1 g2 m2) (l1:Gh.Le g g1) (l2:Gh.Le g1 g2):pA nm g g2 (m2++m1):=by
 refine ⟨fun h=>by rw [h1.none h,h2.none h]; rfl,List.nodup_append.2 ⟨h2.nodup,h1.nodup,fun x hx y hy e=>?_⟩,fun r hr=>?_⟩
 . subst e
   have:=(h2.res x hx).2
   rw [(h1.res x hy).1] at this; cases this
 . simp only [gu] at hr
   rcases hr with hr | hr
   . refine ⟨(h2.res r hr).1,?_⟩
     cases e:g.res r with
     | false=>rfl
     | true=>have:=(h2.res r hr).2; rw [l1.res _ e] at this; cases this
   . exact ⟨l2.res _ (h1.res r hr).1,(h1.res r hr).2⟩
def rD (g:Gh) (nt:Nat) (nm:Bool) (ds:List Deferred) (Q:Ex->Env->St->Prop) (e:Exit) (a:Act) (w:World):Prop :=
 a.tmps.size=nt/\∃ g' U ρ ms,a.defers=ms.map G3++ds/\pA nm g g' ms/\Gh.Le g g'/\bo g' U w/\ia g' ρ a.tmps/\HO g' Q ρ U e
def Hm (g:Gh):Ro->Option Nat->Prop
 | .fn,none=>True
 | .bare,none=>True
 | .round o,some l=>∃ x,g.place o=some x/\x.aF=l
 | _,_=>False
theorem Hm.mono {g g':Gh} (h:Gh.Le g g') {ro:Ro} {fr:Option Nat} (hr:Hm g ro fr):Hm g' ro fr:=by
 cases ro <;> cases fr <;> simp only [Hm] at hr ⊢
 obtain ⟨x,h1,h2⟩:=hr
 exact ⟨x,h.place _ _ h1,h2⟩
def bH (C:cS) (nt:Nat) (ro:Ro) (c:Code) (Q:Ex->Env->St->Prop) (ρ:Env) (U:St):Prop :=
 ∀ g w a fr,bo g U w->iU C g->ia g ρ a.tmps->a.tmps.size=nt->Hm g ro fr->c.wpIn (FW fr) 0 C.P (rD g nt ro.nm a.defers Q) a w
section
variable {C:cS} {g:Gh} {U:St} {w:World} {nt:Nat} {nm:Bool} {ro:Ro} {Q:Ex->Env->St->Prop} {ρ:Env}
theorem HO.mono {Q':Ex->Env->St->Prop} {e:Exit} (h:HO g Q ρ U e) (hq:∀ e ρ U,Q e ρ U->Q' e ρ U):HO g Q' ρ U e:=by
 cases e <;> first
  | exact hq _ _ _ h
  | (obtain ⟨x,v,h1,h2,h3⟩:=h; exact ⟨x,v,h1,h2,hq _ _ _ h3⟩)
  | exact h
theorem bH.mono {c:Code} {Q':Ex->Env->St->Prop} (h:bH C nt ro c Q ρ U) (hq:∀ e ρ U,Q e ρ U->Q' e ρ U):bH C nt ro c Q' ρ U :=
 fun g w a fr h1 h2 h3 h4 yR=>wpIn_mono (h g w a fr h1 h2 h3 h4 yR) fun e a' w' ⟨k1,g',ad,ez,ms,k2,k3,k4,k5,k6,k7⟩=>⟨k1,g',ad,ez,ms,k2,k3,k4,k5,k6,k7.mono hq⟩
theorem rD.back {g':Gh} {ds:List Deferred} {ms:List Nat} {e:Exit} {a:Act} (h:rD g' nt nm (ms.map G3++ds) Q e a w) (zy:pA nm g g' ms) (hle:Gh.Le g g'):rD g nt nm ds Q e a w:=by
 obtain ⟨k1,g2,ad,ez,Jb,k2,k3,k4,k5,k6,k7⟩:=h
 exact ⟨k1,g2,ad,ez,Jb++ms,by rw [k2,List.map_append,gi],zy.append k3 hle k4,hle.trans k4,k5,k6,k7⟩
def abX (K:Env->St->Prop) (Q:Ex->Env->St->Prop):Ex->Env->St->Prop
 | .normal,ρ,U=>K ρ U
 | e,ρ,U=>Q e ρ U
theorem bH.seq {x y:Code} (h:bH C nt ro x (abX (fun ρ U=>bH C nt ro y Q ρ U) Q) ρ U):bH C nt ro (.seq x y) Q ρ U:=by
 intro g w a fr h1 h2 h3 h4 yR
 refine wpIn_seq (wpIn_mono (h g w a fr h1 h2 h3 h4 yR) ?_)
 rintro e a' w' ⟨k1,g',ad,ez,ms,k2,k3,k4,k5,k6,k7⟩
 cases e with
 | normal =>
   have:=k7 g' w' a' fr k5 (h2.mono k4) k6 k1 (yR.mono k4)
   rw [k2] at this
   exact wpIn_mono this fun e a w hp=>hp.back k3 k4
 | exit id=>exact ⟨k1,g',ad,ez,ms,k2,k3,k4,k5,k6,k7⟩
 | ret=>exact ⟨k1,g',ad,ez,ms,k2,k3,k4,k5,k6,k7⟩
 | panic ch=>exact ⟨k1,g',ad,ez,ms,k2,k3,k4,k5,k6,k7⟩
 | goto l=>exact k7.elim
 | outgrown=>exact k7.elim
theorem zU {a:Act} {ds:List Deferred} {e:Exit} (h:bo g U w) (hr:ia g ρ a.tmps) (hn:a.tmps.size=nt) (hd:a.defers=ds) (hq:HO g Q ρ U e):rD g nt nm ds Q e a w :=
 ⟨hn,g,U,ρ,[],by simpa using hd,mN _ _ _,Gh.Le.refl g,h,hr,hq⟩
theorem bH.skip (h:Q .normal ρ U):bH C nt ro .skip Q ρ U:=fun g w a fr h1 h2 h3 h4 _=>wpIn_skip (zU h1 h3 h4 rfl h)
theorem bH.exit {id:Nat} (h:Q (.exit id) ρ U):bH C nt ro (.exit id) Q ρ U:=fun g w a fr h1 h2 h3 h4 _=>wpIn_exit (zU h1 h3 h4 rfl h)
theorem bH.ret (h:Q .ret ρ U):bH C nt ro .ret Q ρ U:=fun g w a fr h1 h2 h3 h4 _=>wpIn_ret (zU h1 h3 h4 rfl h)
theorem bH.cond {c:Operand} {x y:Code} {b:Bool} (hc:ρ.ev C c=.bool b) (h1:b=true->bH C nt ro x Q ρ U) (h2:b=false->bH C nt ro y Q ρ U):bH C nt ro (.cond c x y) Q ρ U:=by
 intro g w a fr k1 k2 k3 k4 k5
 have:=ui k2 k3 c
 rw [hc] at this
 simp only [ay] at this
 exact wpIn_cond_split this (fun e=>h1 e g w a fr k1 k2 k3 k4 k5) (fun e=>h2 e g w a fr k1 k2 k3 k4 k5)
theorem bH.adA {c:Operand} {x y:Code} (hc:ρ.ev C c=.bool true) (h1:bH C nt ro x Q ρ U):bH C nt ro (.cond c x y) Q ρ U:=bH.cond hc (fun _=>h1) (fun h=>by cases h)
theorem bH.adz {c:Operand} {x y:Code} (hc:ρ.ev C c=.bool false) (h1:bH C nt ro y Q ρ U):bH C nt ro (.cond c x y) Q ρ U:=bH.cond hc (fun h=>by cases h) (fun _=>h1)
def y9 (id:Nat) (Q:Ex->Env->St->Prop):Ex->Env->St->Prop
 | .exit Bw,ρ,U=>if Bw=id then Q .normal ρ U else Q (.exit Bw) ρ U
 | e,ρ,U=>Q e ρ U
theorem bH.block {id:Nat} {c:Code} (h:bH C nt ro c (y9 id Q) ρ U):bH C nt ro (.block id c) Q ρ U:=by
 intro g w a fr h1 h2 h3 h4 yR
 refine wpIn_block (wpIn_mono (h g w a fr h1 h2 h3 h4 yR) ?_)
 rintro e a' w' ⟨k1,g',ad,ez,ms,k2,k3,k4,k5,k6,k7⟩
 cases e with
 | normal=>exact ⟨k1,g',ad,ez,ms,k2,k3,k4,k5,k6,k7⟩
 | exit Bw =>
   have k7:y9 id Q (.exit Bw) ez ad:=k7
   simp only [y9] at k7
   simp only [Exit.inBlock]
   split
   . rename_i e; rw [if_pos e] at k7; exact ⟨k1,g',ad,ez,ms,k2,k3,k4,k5,k6,k7⟩
   . rename_i e; rw [if_neg e] at k7; exact ⟨k1,g',ad,ez,ms,k2,k3,k4,k5,k6,k7⟩
 | ret=>exact ⟨k1,g',ad,ez,ms,k2,k3,k4,k5,k6,k7⟩
 | panic ch=>exact ⟨k1,g',ad,ez,ms,k2,k3,k4,k5,k6,k7⟩
 | goto l=>exact k7.elim
 | outgrown=>exact k7.elim
theorem bH.loop {c:Code} (I:Nat->Env->St->Prop) {n:Nat} (h0:I n ρ U) (round:∀ n ρ U,I n ρ U->bH C nt ro c (abX (fun ez ad=>∃ m,m < n/\I m ez ad) Q) ρ U):bH C nt ro (.loop c) Q ρ U:=by
 intro g w a fr h1 h2 h3 h4 yR
 let J:Nat->Act->World->Prop:=fun n a' w'=>a'.tmps.size=nt/\∃ g' ad ez ms,a'.defers=ms.map G3++a.defers/\pA ro.nm g g' ms/\Gh.Le g g'/\bo g' ad w'/\ia g' ez a'.tmps/\I n ez ad
 have ex:∀ a' w',(∃ n,J n a' w')->∃ n,J n a' w'/\∀ m,m < n->¬ J m a' w':=fun a' w' ⟨n,hn⟩=>by
  induction n using Nat.strongRecOn with
  | _ n ih =>
    by_cases hm:∃ m,m < n/\J m a' w'
    . obtain ⟨m,Ls,WA⟩:=hm; exact ih m Ls WA
    . exact ⟨n,hn,fun m Ls WA=>hm ⟨m,Ls,WA⟩⟩
 classical
 let μ:Act->World->Nat:=fun a' w'=>if h:∃ n,J n a' w' then (ex a' w' h).choose else 0
 have hμ:∀ a' w',(∃ n,J n a' w')->J (μ a' w') a' w'/\∀ m,m < μ a' w'->¬ J m a' w':=fun a' w' h=>by
  have:=(ex a' w' h).choose_spec
  simp only [μ,dif_pos h]; exact this
 refine wpIn_loop (fun a' w'=>∃ n,J n a' w') μ ⟨n,h4,g,U,ρ,[],by simp,mN _ _ _,Gh.Le.refl g,h1,h3,h0⟩ ?_
 intro a' w' hJ
 obtain ⟨⟨k1,g',ad,ez,ms,k2,k3,k4,k5,k6,k7⟩,_⟩:=hμ a' w' hJ
 refine wpIn_mono (round _ ez ad k7 g' w' a' fr k5 (h2.mono k4) k6 k1 (yR.mono k4)) ?_
 intro e a2 w2 hp
 rw [k2] at hp
 have hp:=hp.back k3 k4
 obtain ⟨q1,g2,bh,rR,Jb,q2,q3,q4,q5,q6,q7⟩:=hp
 cases e with
 | normal =>
   obtain ⟨m,hm,hI⟩:=q7
   have hJ2:J m a2 w2:=⟨q1,g2,bh,rR,Jb,q2,q3,q4,q5,q6,hI⟩
   refine ⟨⟨m,hJ2⟩,?_⟩
   have:=(hμ a2 w2 ⟨m,hJ2⟩).2
   rcases kO (μ a2 w2) (μ a' w') with h | h
   . exact h
   . exact absurd hJ2 (this m (by omega))
 | exit id=>exact ⟨q1,g2,bh,rR,Jb,q2,q3,q4,q5,q6,q7⟩
 | ret=>exact ⟨q1,g2,bh,rR,Jb,q2,q3,q4,q5,q6,q7⟩
 | panic ch=>exact ⟨q1,g2,bh,rR,Jb,q2,q3,q4,q5,q6,q7⟩
 | goto l=>exact q7.elim
 | outgrown=>exact q7.elim
end
end Go.Rip
namespace Go.Rip
open Go.RowKit
section
variable {C:cS} {g:Gh} {U:St} {w:World} {nt:Nat} {nm:Bool} {ro:Ro} {fr:Option Nat} {Q:Ex->Env->St->Prop} {ρ:Env}
def Ce (nt:Nat) (o:Oper):Bool :=
 (match o.dst with | some d=>decide (d < nt) | none=>true) && (match o.op with | .defer _=>false | _=>true)
def lW (nt:Nat) (ops:Array Oper):Bool:=ops.toList.all (Ce nt)
theorem Bf {ops:Array Oper} {a:Act} (hr:ia g ρ a.tmps) {o:Oper} {b:Bool} (h:iB ops ρ o.guard=.bool b):Region.wanted o (yielded ops a.tmps)=b:=by
 unfold iB at h
 unfold Region.wanted
 cases hg:o.guard with
 | none=>simp [hg] at h; simp [h]
 | some jw =>
   obtain ⟨j,want⟩:=jw
   simp only [hg] at h ⊢
   split at h
   . rename_i d hd
     split at h
     . rename_i b' hb
       simp only [AV.bool.injEq] at h
       subst h
       have:=hr d
       rw [hb] at this
       simp only [ay] at this
       have ti:a.tmps[d]?=some (.bool b'):=by
        rw [Array.getD_eq_getD_getElem?] at this
        cases ht:a.tmps[d]? with
        | none=>rw [ht] at this; simp [undef] at this
        | some v=>rw [ht] at this; simp at this; rw [this]
       unfold yielded
       rw [hd]
       simp only [Option.bind_some,ti]
       cases b' <;> cases want <;> rfl
     . rename_i hb
       simp only [AV.bool.injEq] at h
       subst h
       have:=hr d
       rw [hb] at this
       simp only [ay,aD] at this
       obtain ⟨vs,this,rfl⟩:=this
       have ti:∀ b,a.tmps[d]? ≠ some (.bool b):=fun b fC=>by
        rw [Array.getD_eq_getD_getElem?,fC] at this
        simp at this
       unfold yielded
       rw [hd]
       simp only [Option.bind_some]
       first
        | rfl
        | (split
           . rename_i b' fC; exact absurd fC (ti _)
           . rfl)
     . cases h
   . cases h
theorem pn (a:Act) (dst:Option Tmp) (v:Value):(a.put dst v).defers=a.defers/\(a.put dst v).tmps.size=a.tmps.size:=by
 cases dst <;> simp [Act.put]
theorem ia.eN {a:Act} (hr:ia g ρ a.tmps) {dst:Option Tmp} {x:AV} {v:Value} (hd:∀ d,dst=some d->d < a.tmps.size) (hx:ay g x v):ia g (ρ.eN dst x) (a.put dst v).tmps:=by
 cases dst with
 | none=>exact hr
 | some d=>exact hr.put (hd d rfl) hx
theorem vE:ay g (.aH []) undef:=by simp only [ay]; exact ⟨[],rfl,by simp [aD]⟩
def KQ (Q:Ex->Env->St->Prop):Env->St->Prop:=fun ρ U=>Q .normal ρ U
def yM (Q:Ex->Env->St->Prop):AV->St->Prop:=fun x U=>∀ ρ,Q (.panic x) ρ U
theorem qC {o:Oper} (cO:Ce nt o=true) {mu:Bool} {K:AV->St->Prop} {Kp:AV->St->Prop} {ds:List Deferred} {next:Act->World->Prop} {a:Act}
 (hs:bo g U w) (hG:iU C g) (hr:ia g ρ a.tmps) (hn:a.tmps.size=nt)
 (h:(kn C mu o.op ρ U).wp C U K Kp)
 (pD:∀ g' ad w' x v,Gh.Le g g'->bo g' ad w'->ay g' x v->K x ad->next (a.put o.dst v) w')
 {QQ:Exit->Act->World->Prop} (Iw:∀ g' ad w' x v,Gh.Le g g'->bo g' ad w'->ay g' x v->Kp x ad->QQ (.panic [{ v,recovered:=false }]) a w') :
 o.wpIn (FW fr) 0 C.P a w next QQ:=by
 refine ⟨fun _ _=>trivial,?_⟩
 have Ic:∀ c,o.op ≠ .defer c:=fun c e=>by simp [Ce,e] at cO
 rw [Oper.semAt_eq _ _ _ Ic]
 have fits:=U3 (C:=C) hs hG hr mu o
 generalize hres:(execOp a.eval o).run C.P w=res at fits ⊢
 generalize kn C mu o.op ρ U=r at fits h
 have val:∀ {x ad},(∃ u w' g',(res=.ok (.value u) w'\/(res=.ok .skip w'/\u=undef))/\Gh.Le g g'/\bo g' ad w'/\ay g' x u)->K x ad->o.uponIn (FW fr) 0 C.P a next QQ res:=by
  rintro x ad ⟨u,w',g',hu,hle,eU,hx⟩ hk
  rcases hu with rfl | ⟨rfl,rfl⟩
  . exact pD g' ad w' x u hle eU hx hk
  . exact pD g' ad w' x undef hle eU hx hk
 induction r with
 | val v=>exact val fits h
 | jd v b x=>exact val fits h
 | new k del x=>obtain ⟨u,w',g',b,rfl,hb,hle,eU,hx⟩:=fits; exact pD g' _ w' _ u hle eU hx (h b hb)
 | mj b l=>obtain ⟨u,w',g',v,x,rfl,hm,hle,eU,hx⟩:=fits; exact pD g' _ w' _ u hle eU hx (h (v,x) hm)
 | enter f args =>
   obtain ⟨vs,w',rfl,eU,ha⟩:=fits
   refine ⟨fun hd=>by simp [FW,Fence.wide] at hd,?_⟩
   have hc:CallsIn (FW fr) 0 C.P f (List.toArray vs) w' (pH g (ag K Kp)):=h g w' vs eU hG ha
   refine hc.mono ?_
   rintro e w2 hp
   cases e with
   | returned v=>obtain ⟨g',ad,x,h1,h2,h3,h4⟩:=hp; exact pD g' ad w2 x v h1 h2 h3 h4
   | panicked ch=>obtain ⟨g',ad,x,v,rfl,h1,h2,h3,h4⟩:=hp; exact Iw g' ad w2 x v h1 h2 h3 h4
   | outgrown=>exact hp.elim
 | yield l args =>
   obtain ⟨vs,x,w0,w',hx,rfl,rfl,eU,ha⟩:=fits
   obtain ⟨fn,tmps,assign,body,hy,hR⟩:=h g w' vs x eU hG ha hx
   rw [hy]
   refine ⟨fun hd=>by simp [FW,Fence.wide] at hd,?_⟩
   have hc:RoundIn (FW fr) 0 C.P x.aF fn tmps assign body w' (pH g (ag K Kp)):=hR
   refine hc.mono ?_
   rintro e w2 hp
   cases e with
   | returned v=>obtain ⟨g',ad,x,h1,h2,h3,h4⟩:=hp; exact pD g' ad w2 x v h1 h2 h3 h4
   | panicked ch=>obtain ⟨g',ad,x,v,rfl,h1,h2,h3,h4⟩:=hp; exact Iw g' ad w2 x v h1 h2 h3 h4
   | outgrown=>exact hp.elim
 | panic v=>obtain ⟨u,w',rfl,eU,hx⟩:=fits; exact Iw g _ w' v u (Gh.Le.refl g) eU hx h
 | cond p r ih=>exact ih (fits h.1) h.2
 | bad=>exact h.elim
theorem yc {mu:List Nat} {ops:Array Oper} (cO:lW nt ops=true) (g0:Gh):∀ (l:List Nat) (g:Gh) (U:St) (w:World) (ρ:Env) (a:Act) (ds:List Deferred),Gh.Le g0 g->bo g U w->iU C g->ia g ρ a.tmps->a.tmps.size=nt->a.defers=ds ->
 pT C mu ops (l.filterMap (ops[·]?)) ρ U (KQ Q) (yM Q)->wpOpsIn (FW fr) 0 C.P ops (rD g0 nt nm ds Q) l a w
 | [],g,U,w,ρ,a,ds,h0,hs,hG,hr,hn,hd,h=>by
   simp only [wpOpsIn]
   exact ⟨hn,g,U,ρ,[],by simpa using hd,mN _ _ _,h0,hs,hr,h⟩
 | i::rest,g,U,w,ρ,a,ds,h0,hs,hG,hr,hn,hd,h=>by
   simp only [wpOpsIn]
   cases ho:ops[i]? with
   | none =>
     simp only [List.filterMap_cons,ho] at h
     exact yc cO g0 rest g U w ρ a ds h0 hs hG hr hn hd h
   | some o =>
     dsimp only
     simp only [List.filterMap_cons,ho,pT] at h
     have oc:o ∈ ops.toList:=by
      have:=gr (l:=ops.toList) (i:=i) (a:=o) (by rw [lO]; exact ho)
      exact this
     have Iv:Ce nt o=true:=by
      unfold lW at cO
      rw [fe] at cO
      exact cO o oc
     have Ux:∀ d,o.dst=some d->d < a.tmps.size:=fun d yQ=>by
      simp only [Ce,yQ,bS,ee] at Iv
      rw [hn]; exact Iv.1
     have go:∀ g' ad w' x v,Gh.Le g g'->bo g' ad w'->ay g' x v->pT C mu ops (rest.filterMap (ops[·]?)) (ρ.eN o.dst x) ad (KQ Q) (yM Q)->wpOpsIn (FW fr) 0 C.P ops (rD g0 nt nm ds Q) rest (a.put o.dst v) w':=fun g' ad w' x v hle eU hx hk =>
      yc cO g0 rest g' ad w' (ρ.eN o.dst x) (a.put o.dst v) ds (h0.trans hle) eU (hG.mono hle) ((hr.mono hle).eN Ux hx) (by rw [(pn a o.dst v).2]; exact hn) (by rw [(pn a o.dst v).1]; exact hd) hk
     cases PD:iB ops ρ o.guard <;> rw [PD] at h <;> simp only [av] at h
     rename_i b
     have hw:=Bf hr PD
     cases b
     . rw [if_neg (by rw [hw]; simp)]
       exact ⟨fun _ _=>trivial,go g U w (.aH []) undef (Gh.Le.refl g) hs vE (h.2 rfl)⟩
     . rw [if_pos hw]
       refine qC Iv hs hG hr hn (h.1 rfl) go ?_ (ds:=ds)
       intro g' ad w' x v hle eU hx hk
       exact ⟨hn,g',ad,ρ,[],by simpa using hd,mN _ _ _,h0.trans hle,eU,hr.mono hle,x,v,rfl,hx,hk ρ⟩
theorem DC (ops:Array Oper):(List.range ops.size).filterMap (ops[·]?)=ops.toList:=by
 apply List.ext_getElem?
 intro i
 have:∀ n,n <= ops.size->(List.range n).filterMap (ops[·]?)=ops.toList.take n:=fun n=>by
  induction n with
  | zero=>intro _; simp
  | succ n ih =>
    intro hn
    rw [List.range_succ,List.filterMap_append,ih (by omega),sx]
    have:ops[n]?=some ops[n]:=by simp
    simp [this]
 rw [this ops.size (bT _),qD (by simp)]
theorem bH.region {id:Nat} {ops:Array Oper} (mu:List Nat) (cO:lW nt ops=true) (h:pT C mu ops ops.toList ρ U (KQ Q) (yM Q)):bH C nt ro (.region id ops false) Q ρ U:=by
 intro g w a fr h1 h2 h3 h4 yR
 exact wpIn_region (yc cO g (List.range ops.size) g U w ρ a a.defers (Gh.Le.refl g) h1 h2 h3 h4 rfl (by rw [DC]; exact h))
end
end Go.Rip
namespace Go.Rip
open Go.RowKit
def oQ (x:AV) (U:St) (x':AV) (ad:St):Prop:=∀ g w v,bo g U w->ay g x v->∃ g',Gh.Le g g'/\bo g' ad w/\ay g' x' v
theorem oQ.refl (x:AV) (U:St):oQ x U x U:=fun g w v h hr=>⟨g,Gh.Le.refl g,h,hr⟩
theorem oQ.trans {x y z:AV} {a b c:St} (h:oQ x a y b) (k:oQ y b z c):oQ x a z c:=fun g w v hs hr =>
 let ⟨g1,l1,s1,r1⟩:=h g w v hs hr
 let ⟨g2,l2,s2,r2⟩:=k g1 w v s1 r1
 ⟨g2,l1.trans l2,s2,r2⟩
theorem oQ.freeze {b:Nat} {U:St} {l:List AV} (hb:U.box b=some l):oQ (.box b 0) U (.cQ l) (U.del b):=fun g w v hs hr=>by
 simp only [ay] at hr
 obtain ⟨x,hx,rfl⟩:=hr
 obtain ⟨g',vs,hle,_,hi,hl,eU⟩:=hs.freeze hb hx
 exact ⟨g',hle,eU,by simp only [ay]; exact ⟨x.aF,0,vs,rfl,hi,hl.mono hle⟩⟩
theorem oQ.Ul {b n jA:Nat} {e:TypeId} {U:St} {l:List AV} (hb:U.box b=some l):oQ (.ms b 0 n jA e) U (.vec n .jc l) (U.del b):=fun g w v hs hr=>by
 simp only [ay] at hr
 obtain ⟨x,c,hx,rfl,h1,h2,_,_⟩:=hr
 obtain ⟨g',vs,hle,_,hi,hl,eU⟩:=hs.freeze hb hx
 exact ⟨g',hle,eU,by simp only [ay]; exact ⟨x.aF,0,c,vs,rfl,h1,h2,trivial,hi,hl.mono hle⟩⟩
def AK (P:Program) (t:TypeId) (p:AV) (U:St) (k:AV->Prop):Prop :=
 match vj P t p U with
 | .val v=>k v
 | @aC.cond q _ (.val v)=>q/\k v
 | _=>False
def we (P:Program) (ρ:Env) (U:St):List ResultVar->(List AV->Prop)->Prop
 | [],k=>k []
 | .tmp t::rs,k=>we P ρ U rs fun vs=>k (ρ.get t::vs)
 | .cell t ty::rs,k=>AK P ty (ρ.get t) U fun v=>we P ρ U rs fun vs=>k (v::vs)
def wh:List AV->AV
 | [x]=>x
 | l=>.aH l
def af6 (P:Program) (fn:Func) (R:cY->St->Prop):Ex->Env->St->Prop
 | .normal,ρ,U | .ret,ρ,U=>we P ρ U fn.results.toList fun vs=>∃ x ad,oQ (wh vs) U x ad/\R (.ret x) ad
 | .panic x,_,U=>R (.panic x) U
 | .exit _,_,_=>False
def Env.km (args:List AV):Env:=⟨fun t=>args.getD t (.aH [])⟩
section
variable {C:cS} {g:Gh} {U:St} {w:World} {nt:Nat} {ro:Ro} {Q:Ex->Env->St->Prop} {ρ:Env}
theorem Qi (h:bo g U w) {t:TypeId} {p:AV} {v:Value} (hp:ay g p v) {k:AV->Prop} (hk:AK C.P t p U k):∃ u x,(do loadVar t (<- asAddr v):Sem Value).run C.P w=.ok u w/\ay g x u/\k x:=by
 unfold AK vj at hk
 cases hv:oY C.P t with
 | none=>simp [hv] at hk
 | some bs =>
   obtain ⟨b,sz⟩:=bs
   cases hl:nr U p with
   | none=>rw [hv,hl] at hk; cases b <;> simp at hk
   | some l =>
     rw [hv,hl] at hk
     obtain ⟨i,d,hi,hd,hb,fh⟩:=pz hv
     obtain ⟨a,vs,rfl,ha,hr,hc⟩:=sH h hp hl
     cases b
     . cases l with
       | nil=>simp [jf] at hk
       | cons x xs =>
         simp only [jf] at hk
         simp only [aD] at hr
         obtain ⟨u,us,rfl,h1,h2⟩:=hr
         have:=(hc 0 u rfl).1
         have h0:a.add 0=a:=by simp [Addr.add]
         rw [h0] at this
         refine ⟨u,x,?_,h1,hk⟩
         simp only [asAddr,loadVar,ck,cP,cK,mz hd,hb,bQ,if_false,run_load,this,fE]
     . obtain ⟨hle,hk⟩:=hk
       have hlen:=hr.length
       have ix:(loadCells a (vs.take sz).length).run C.P w=.ok (vs.take sz).toArray w :=
        run_loadCells_list (P:=C.P) w a (vs.take sz) fun j u hu=>by
         rw [List.getElem?_take] at hu
         split at hu
         . exact (hc j u hu).1
         . cases hu
       have rT:(vs.take sz).length=sz:=by simp; omega
       rw [rT] at ix
       have Pn:∀ u ∈ vs.take sz,u.oneCell'=true:=fun u hu=>by
        obtain ⟨j,hj⟩:=List.getElem?_of_mem hu
        rw [List.getElem?_take] at hj
        split at hj
        . exact (hc j u hj).2
        . cases hj
       refine ⟨.agg (vs.take sz).toArray,_,?_,?_,hk⟩
       . simp only [asAddr,loadVar,ck,cP,cK,mz hd,hb,if_true,fg hi,fh,ix,fE]
       . simp only [ay]; exact ⟨_,rfl,Pn,hr.take sz⟩
theorem Cl (h:bo g U w) {a:Act} (hr:ia g ρ a.tmps):∀ (rs:List ResultVar) (k:List AV->Prop),we C.P ρ U rs k ->
 ∃ us xs,(rs.mapM (fun
  | .tmp t=>pure (a.tmps.getD t undef)
  | .cell p t=>do loadVar t (<- asAddr (a.tmps.getD p undef)):ResultVar->Sem Value)).run C.P w=.ok us w/\aD g xs us/\k xs
 | [],k,hk=>⟨[],[],by simp,by simp [aD],hk⟩
 | .tmp t::rs,k,hk=>by
   obtain ⟨us,xs,h1,h2,h3⟩:=Cl h hr rs _ hk
   exact ⟨a.tmps.getD t undef::us,ρ.get t::xs,by simp only [List.mapM_cons,ck,cP,cK,h1],by simp only [aD]; exact ⟨_,_,rfl,hr t,h2⟩,h3⟩
 | .cell p t::rs,k,hk=>by
   obtain ⟨u,x,h4,h5,h6⟩:=Qi h (hr p) hk
   obtain ⟨us,xs,h1,h2,h3⟩:=Cl h hr rs _ h6
   simp only [ck] at h4
   exact ⟨u::us,x::xs,by simp only [List.mapM_cons,ck,cP,h4,cK,h1],by simp only [aD]; exact ⟨_,_,rfl,h5,h2⟩,h3⟩
theorem BI (h:bo g U w) {a:Act} (hr:ia g ρ a.tmps) {fn:Func} {k:List AV->Prop} (hk:we C.P ρ U fn.results.toList k) :
 ∃ u xs,(results fn a.tmps).run C.P w=.ok u w/\ay g (wh xs) u/\k xs:=by
 obtain ⟨us,xs,h1,h2,h3⟩:=Cl h hr _ k hk
 have e:(results fn a.tmps).run C.P w=.ok (if h:us.toArray.size=1 then us.toArray[0] else .tuple us.toArray) w:=by
  unfold results
  rw [Array.mapM_eq_mapM_toList]
  simp only [ck,Sem.run_map,cP]
  erw [h1]
  rfl
 refine ⟨_,xs,e,?_,h3⟩
 match xs,us,h2 with
 | [],us,h2 =>
   simp only [aD] at h2; subst h2
   simp [wh,ay,aD]
 | [x],us,h2 =>
   simp only [aD] at h2
   obtain ⟨u,_,rfl,h4,rfl⟩:=h2
   simpa [wh] using h4
 | x::y::zs,us,h2 =>
   have hl:=h2.length
   rw [dif_neg (by simp at hl ⊢; omega)]
   simp only [wh,ay]
   exact ⟨us,rfl,h2⟩
theorem BV (args:List AV) (vs:List Value) (n:Nat) (ha:aD g args vs):ia g (Env.km args) (vs.toArray++Array.replicate n undef):=fun t=>by
 simp only [Env.km,Array.getD_eq_getD_getElem?,nG,Array.getElem?_append,List.size_toArray,List.getElem?_toArray]
 have hl:=ha.length
 by_cases ht:t < vs.length
 . rw [if_pos ht]
   obtain ⟨x,hx⟩:∃ x,args[t]?=some x:=⟨args[t]'(by omega),by simp⟩
   obtain ⟨v,hv,hr⟩:=ha.get hx
   rw [hx,hv]; exact hr
 . rw [if_neg ht,ym (by omega)]
   simp only [Option.getD_none]
   have:((Array.replicate n undef)[t - vs.length]?).getD undef=undef:=by
    rw [Array.getElem?_replicate]; split <;> rfl
   rw [this]; exact vE
theorem rv {fn:Func} {a:Act} {R:cY->St->Prop} (g0:Gh):∀ (ms:List Nat) (g:Gh) (w:World) (u:FrameMode),ms.Nodup->(∀ r ∈ ms,g.res r=true/\g0.res r=false)->Gh.Le g0 g->bo g U w->ia g ρ a.tmps ->
 ((u=.returning/\we C.P ρ U fn.results.toList fun vs=>∃ x ad,oQ (wh vs) U x ad/\R (.ret x) ad)\/(∃ x v,u=.panicking [{ v,recovered:=false }]/\ay g x v/\R (.panic x) U)) ->
 LeavesInM Fence.wide 0 C.P fn a.tmps (pH g0 R) (ms.map G3) u w
 | [],g,w,u,_,_,hle,hs,hr,h=>by
   simp only [nF,LeavesInM]
   rcases h with ⟨rfl,h⟩ | ⟨x,v,rfl,hx,h⟩
   . obtain ⟨v,xs,ix,hv,x,ad,ht,hR⟩:=BI hs hr h
     obtain ⟨g',Ni,eU,hx⟩:=ht g w v hs hv
     exact ⟨v,ix,g',ad,x,hle.trans Ni,eU,hx,hR⟩
   . exact ⟨g,U,x,v,rfl,hle,hs,hx,h⟩
 | r::ms,g,w,u,hnd,zy,hle,hs,hr,h=>by
   simp only [eh,LeavesInM]
   refine ⟨by rcases h with ⟨rfl,_⟩ | ⟨_,_,rfl,_⟩ <;> simp,.inl ⟨r,{ w with heap:=w.heap.setIfInBounds r (Obj.deferred none) },rfl,?_,?_⟩⟩
   . obtain ⟨_,hh⟩:=hs.res r (zy r (by simp)).1
     simp [Instr.takeDeferred,getObj,setObj,ck,Sem.run,hh,Result.andThen]
   . have hlR:Gh.ud g { g with res:=fun x=>if x=r then false else g.res x }:=⟨fun _ _ h=>h,fun _ _ _ h=>h,fun _ _ h=>h⟩
     refine rv g0 ms { g with res:=fun x=>if x=r then false else g.res x } _ u (List.nodup_cons.1 hnd).2 (fun q hq=>?_) ?_ (hs.shut (zy r (by simp)).1) (fun t=>(hr t).fA hlR) ?_
     . refine ⟨?_,(zy q (by simp [hq])).2⟩
       show (if q=r then false else g.res q)=true
       rw [if_neg (fun e:q=r=>by subst e; exact (List.nodup_cons.1 hnd).1 hq)]
       exact (zy q (by simp [hq])).1
     . refine ⟨hle.base,hle.w0,hle.place,hle.ct,hle.bY,fun q hq=>?_,hle.zD,hle.wS⟩
       show (if q=r then false else g.res q)=true
       have cr:q ≠ r:=fun e=>by subst e; rw [(zy q (by simp)).2] at hq; cases hq
       rw [if_neg cr]
       exact hle.res q hq
     . rcases h with h | ⟨x,v,h1,h2,h3⟩
       . exact .inl h
       . exact .inr ⟨x,v,h1,h2.fA hlR,h3⟩
theorem ae.LZ {f:FuncId} {fn:Func} {c:Code} {args:List AV} {R:cY->St->Prop} (hf:C.P.funcs[f]?=some fn) (hb:fn.body=some c) (hlen:args.length <= fn.ntmps)
 (h:bH C fn.ntmps .fn c (af6 C.P fn R) (Env.km args) U):ae C f args U R:=by
 intro g w vs hs hG ha
 have hl:=ha.length
 refine callsIn_of_wp_marks hf hb trivial ?_
 have El:=BV args vs (fn.ntmps - args.length) ha
 have:=h g w { tmps:=vs.toArray++Array.replicate (fn.ntmps - vs.toArray.size) undef,defers:=[] } none hs hG (by
  have e:vs.toArray.size=args.length:=by simpa using hl
  rw [e]; exact El) (by simp; omega) trivial
 refine wpIn_mono this ?_
 rintro e a w' ⟨k1,g',ad,ez,ms,k2,k3,k4,k5,k6,k7⟩
 simp only [gD] at k2
 cases e with
 | normal =>
   show LeavesInM _ _ _ _ _ _ a.defers _ _
   rw [k2]
   exact rv g ms g' w' _ k3.nodup k3.res k4 k5 k6 (.inl ⟨rfl,k7⟩)
 | ret =>
   show LeavesInM _ _ _ _ _ _ a.defers _ _
   rw [k2]
   exact rv g ms g' w' _ k3.nodup k3.res k4 k5 k6 (.inl ⟨rfl,k7⟩)
 | panic ch =>
   obtain ⟨x,v,rfl,hx,hR⟩:=k7
   show LeavesInM _ _ _ _ _ _ a.defers _ _
   rw [k2]
   exact rv g ms g' w' _ k3.nodup k3.res k4 k5 k6 (.inr ⟨x,v,rfl,hx,hR⟩)
 | exit id=>exact k7.elim
 | goto l=>exact k7.elim
 | outgrown=>exact k7.elim
def Pure (C:cS) (f:FuncId) (args:List AV) (x:AV):Prop:=∀ U R,R (.ret x) U->ae C f args U R
end
end Go.Rip
namespace Go.Rip
open Go.RowKit
section
variable {C:cS} {g:Gh} {U:St} {w:World} {nt:Nat} {ro:Ro} {Q:Ex->Env->St->Prop} {ρ:Env}
def abT (o:Nat) (Q:Ex->Env->St->Prop) (ρ:Env):cY->St->Prop
 | .ret _,ad=>∃ L,ad.loop o=some L/\L.state ≠ .busy/\(match L.gh with
   | none=>Q .normal ρ (ad.del o)
   | some .ret=>Q .ret ρ (ad.del o)
   | some (.exit id)=>Q (.exit id) ρ (ad.del o)
   | _=>False)
 | .panic x,ad=>Q (.panic x) ρ ad
theorem bo.TT (h:bo g U w) {o:Nat} {L:fL} {p:Place} (ho:U.loop o=some L) (hp:g.place o=some p) (x:Loop) :
 bo g (U.del o) { w with heap:=w.heap.setIfInBounds p.aF (.loop x) }:=by
 obtain ⟨p',k1,k2,fn,tmps,defers,k3,_⟩:=h.live o _ (St.og.1 ho)
 rw [hp] at k1; cases k1
 refine (h.weaken (St.ug U o)).change p.aF k2 (Gh.Le.refl g) rfl rfl ⟨rfl,rfl,rfl,by simp⟩ (fun k hk _=>Array.getElem?_setIfInBounds_ne (Ne.symm hk)) (fun _ _ _=>rfl) (fun _ _=>rfl) (fun q u hu=>?_) (fun es c hr=>?_) (fun b' x' p' h1 h2 e=>?_) (h.uK (St.og.1 ho) hp)
 . have:=(h.ct _ _ _ hu).1; simp [World.cell?,k3] at this
 . have:=(h.bY _ _ _ hr).1; rw [k3] at this; cases this
 . simp only [St.del] at h1
   split at h1
   . cases h1
   . rename_i ne; exact ne (h.apart _ _ _ _ _ _ h1 (St.og.1 ho) h2 hp e)
theorem bo.sA (h:bo g U w) {o:Nat} {L L':fL} {p:Place} (ho:U.loop o=some L) (hp:g.place o=some p) {fn:FuncId} {tmps:Array Value} {defers:Nat}
 (hn:tmps.size=L'.nt) (hr:∀ t,ay g (L'.ρ t) (tmps.getD t undef)) :
 bo g (U.set o (.loop L')) { w with heap:=w.heap.setIfInBounds p.aF (.loop { state:=L'.state,pending:=L'.gh,fn,tmps,params:=L'.params,assign:=L'.assign,body:=L'.body,defers }) }:=by
 obtain ⟨p',k1,k2,Wh,Hb,Ay,k3,_⟩:=h.live o _ (St.og.1 ho)
 rw [hp] at k1; cases k1
 have aQ:=(lN.1 k3).1
 refine h.rewrite (St.og.1 ho) hp ⟨rfl,rfl,rfl,by simp⟩ (fun k hk _=>Array.getElem?_setIfInBounds_ne (Ne.symm hk)) (fun q=>?_) ?_ ⟨fn,tmps,defers,by simp [aQ],hn,hr⟩
 . cases e:g.ct p.aF q with
   | none=>rfl
   | some u=>have:=(h.ct _ _ _ e).1; simp [World.cell?,k3] at this
 . cases e:g.bY p.aF with
   | none=>rfl
   | some u=>have:=(h.bY _ _ _ e).1; rw [k3] at this; cases this
theorem bH.rangeFunc (tag:Nat) {f:Operand} {ps:Array Tmp} {assign body:Code} {kP:FuncId} {first cap:List AV} (hf:ρ.ev C f=.func (.func kP) first cap) (uq:fw C.P kP=true)
 (h:∀ o,U.dA o->ae C kP (first++[.rZ o]++cap) (U.new o (.loop ⟨ρ.get,nt,ps,assign,body,.ready,none,tag⟩)) (abT o Q ρ)):bH C nt .fn (.rangeFunc f ps assign body) Q ρ U:=by
 intro g w a fr hs hG hr hn yR
 cases fr with
 | some l=>exact yR.elim
 | none =>
 have hev:=ui hG hr f
 rw [hf] at hev
 simp only [ay] at hev
 obtain ⟨fs,cs,hval,Pz,wK⟩:=hev
 refine wpIn_rangeFunc fun fn _=>?_
 obtain ⟨Im,zA⟩:=hs.YD
 have hrE:=hr.mono Im
 obtain ⟨o,g2,f1,f2,f3,f4⟩:=zA.uE (.loop { state:=.ready,pending:=none,fn:=fn,tmps:=a.tmps,params:=ps,assign,body,defers:=w.heap.size }) 0 0 (.loop ⟨ρ.get,nt,ps,assign,body,.ready,none,tag⟩)
  fun g' hle _ _=>⟨fn,a.tmps,w.heap.size,heap_alloc_new _ _,hn,fun t=>(hrE t).mono hle⟩
 have uu:=Im.trans f2
 obtain ⟨HW,hfn,WC,hng⟩:∃ HW,C.P.funcs[kP]?=some HW/\HW.body.isNone=false/\(HW.name == "runtime.NumGoroutine")=false:=by
  unfold fw at uq
  split at uq
  . rename_i HW hfn
    simp only [bS,Bool.not_eq_true'] at uq
    exact ⟨HW,hfn,by cases hb:HW.body <;> simp_all,uq.2⟩
  . cases uq
 refine ⟨w.heap.size+1,[{ target:=.collected w.heap.size,args:=#[] }],((w.alloc (.deferred (some []))).alloc (.loop { state:=.ready,pending:=none,fn:=fn,tmps:=a.tmps,params:=ps,assign,body,defers:=w.heap.size })),
  { target:=.fn (.func kP) cs.toArray,args:=fs.toArray++#[.func (.yield (w.heap.size+1)) #[] #[]] },((w.alloc (.deferred (some []))).alloc (.loop { state:=.ready,pending:=none,fn:=fn,tmps:=a.tmps,params:=ps,assign,body,defers:=w.heap.size })),kP,(fs.toArray++#[.func (.yield (w.heap.size+1)) #[] #[]])++cs.toArray,((w.alloc (.deferred (some []))).alloc (.loop { state:=.ready,pending:=none,fn:=fn,tmps:=a.tmps,params:=ps,assign,body,defers:=w.heap.size })),?_,?_,fun _ _=>trivial,?_,fun hd=>by simp [FW,Fence.wide] at hd,?_⟩
 . simp only [Instr.enterLoop,FW,ck,run_newObj,cP,cK]
   rw [Array.size_push]
   rfl
 . simp only [resolve,rangeCall,List.map_toArray,eh,nF]
   rw [hval]
   simp only [Deferred.ofValue,cP]
   rfl
 . simp only [invoke,callFunc,ck,cP,cK,run_program,hfn,hng,WC,bQ,if_false,fE]
 . have hc:=h o f1 g2 _ (fs++[Value.func (.yield (w.heap.size+1)) #[] #[]]++cs) f4 (hG.mono uu) (((Pz.mono uu).append (by
    simp only [aD]
    exact ⟨_,_,rfl,by simp only [ay]; exact ⟨_,f3,by simp⟩,rfl⟩)).append (wK.mono uu))
   have e:(fs++[Value.func (.yield (w.heap.size+1)) #[] #[]]++cs).toArray=fs.toArray++#[Value.func (.yield (w.heap.size+1)) #[] #[]]++cs.toArray:=by simp
   rw [e] at hc
   have rn:CallsIn (FW none) 0 C.P kP _ _ _:=hc
   refine rn.mono ?_
   rintro e w3 hp
   have PJ:∀ g3,Gh.Le g2 g3->pA false g g3 [w.heap.size]:=fun g3 hl=>⟨fun h=>(by cases h),by simp,fun r hr=>by
    simp only [jX] at hr; subst hr
    exact ⟨hl.res _ (f2.res _ (by simp)),hs.EJ (bT _)⟩⟩
   cases e with
   | returned v =>
     obtain ⟨g3,bW,x,h1,h2,h3,L,h4,h5,h6⟩:=hp
     obtain ⟨p,q1,q2,Wh,Hb,Ay,q3,q4,q5⟩:=h2.live o _ (St.og.1 h4)
     have nx:g3.place o=some ⟨w.heap.size+1,0,0⟩:=h1.place _ _ (by rw [f3]; simp)
     rw [nx] at q1; cases q1
     have wL:(getObj (w.heap.size+1)).run C.P w3=.ok (.loop { state:=L.state,pending:=L.gh,fn:=Wh,tmps:=Hb,params:=L.params,assign:=L.assign,body:=L.body,defers:=Ay }) w3:=by simp [getObj,Sem.run,q3]
     have ID:∀ x,(setObj (w.heap.size+1) x).run C.P w3=.ok () { w3 with heap:=w3.heap.setIfInBounds (w.heap.size+1) x }:=fun x=>by simp [setObj,Sem.run,q3]
     have adK:(L.state == LoopState.busy)=false:=by
      cases hL:L.state <;> first
       | rfl
       | exact absurd hL h5
     have Ie:(Instr.endLoop (w.heap.size+1)).run C.P w3=.ok L.gh { w3 with heap:=w3.heap.setIfInBounds (w.heap.size+1) (.loop { state:=.exhausted,pending:=L.gh,fn:=Wh,tmps:=Hb,params:=L.params,assign:=L.assign,body:=L.body,defers:=Ay }) }:=by
      simp only [Instr.endLoop,Instr.getLoop,ck,wL,cK,cP,adK,bQ,if_false,fE,ID]
     have hs3:=h2.TT h4 nx { state:=.exhausted,pending:=L.gh,fn:=Wh,tmps:=Hb,params:=L.params,assign:=L.assign,body:=L.body,defers:=Ay }
     have post:∀ ex,HO g3 Q ρ (bW.del o) ex->rD g nt false a.defers Q ex { a with defers:=[{ target:=.collected w.heap.size,args:=#[] }]++a.defers } _:=fun ex hq =>
      ⟨hn,g3,bW.del o,ρ,[w.heap.size],rfl,PJ g3 h1,uu.trans h1,hs3,hr.mono (uu.trans h1),hq⟩
     refine ⟨L.gh,_,Ie,?_⟩
     generalize L.gh=gh at h6 post ⊢
     cases gh with
     | none=>exact post .normal h6
     | some c =>
       cases c <;> first
        | exact h6.elim
        | exact wpIn_exit (post (.exit _) h6)
        | exact wpIn_ret (post .ret h6)
   | panicked ch =>
     obtain ⟨g3,bW,x,v,rfl,h1,h2,h3,h4⟩:=hp
     exact ⟨hn,g3,bW,ρ,[w.heap.size],rfl,PJ g3 h1,uu.trans h1,h2,hr.mono (uu.trans h1),x,v,rfl,h3,h4⟩
   | outgrown=>exact hp.elim
def yk (ρ:Nat->AV):List Tmp->List AV->Nat->AV
 | t::ts,v::vs=>yk (fun x=>if x=t then v else ρ x) ts vs
 | _,_=>ρ
theorem Jo {ρ:Nat->AV} {tmps:Array Value}:∀ (ps:List Tmp) (args:List AV) (vs:List Value) (ρ:Nat->AV) (tmps:Array Value),(∀ t,ay g (ρ t) (tmps.getD t undef))->(∀ t ∈ ps,t < tmps.size)->aD g args vs ->
 ((ps.zip vs).foldl (fun (tmps:Array Value) (p:Tmp × Value)=>tmps.setIfInBounds p.1 p.2) tmps).size=tmps.size/\∀ t,ay g (yk ρ ps args t) (((ps.zip vs).foldl (fun (tmps:Array Value) (p:Tmp × Value)=>tmps.setIfInBounds p.1 p.2) tmps).getD t undef)
 | [],args,vs,ρ,tmps,h,_,_=>by simpa [yk] using h
 | t::ts,[],vs,ρ,tmps,h,_,ha=>by
   simp only [aD] at ha; subst ha
   simpa [yk] using h
 | t::ts,x::args,vs,ρ,tmps,h,hl,ha=>by
   simp only [aD] at ha
   obtain ⟨v,vs,rfl,hx,ha⟩:=ha
   simp only [List.zip_cons_cons,List.foldl_cons,yk]
   have h1:∀ t',ay g ((fun y=>if y=t then x else ρ y) t') ((tmps.setIfInBounds t v).getD t' undef):=(ia.put (g:=g) (ρ:=⟨ρ⟩) h (hl t (by simp)) hx)
   obtain ⟨h2,h3⟩:=Jo (ρ:=ρ) (tmps:=tmps) ts args vs _ (tmps.setIfInBounds t v) h1 (fun t' qQ=>by simpa using hl t' (by simp [qQ])) ha
   exact ⟨by rw [h2]; simp,h3⟩
def abU (o:Nat) (R:cY->St->Prop):Ex->Env->St->Prop
 | .normal,_,U=>∃ L,U.loop o=some L/\R (.ret (.bool true)) (U.set o (.loop { L with state:=.ready,gh:=none }))
 | .ret,_,U=>∃ L,U.loop o=some L/\R (.ret (.bool false)) (U.set o (.loop { L with state:=.done,gh:=some .ret }))
 | .exit id,_,U=>∃ L,U.loop o=some L/\R (.ret (.bool false)) (U.set o (.loop { L with state:=.done,gh:=some (.exit id) }))
 | .panic _,_,_=>False
def XX (C:cS) (o:Nat) (body:Code) (nt:Nat) (R:cY->St->Prop):Ex->Env->St->Prop
 | .normal,ρ,U=>∃ L,U.loop o=some L/\L.state=.ready/\bH C nt (.round o) body (abU o R) ρ (U.set o (.loop { L with state:=.busy }))
 | _,_,_=>False
theorem ni.Ji {o:Nat} {args:List AV} {R:cY->St->Prop} {L:fL} (hL:U.loop o=some L) (hargs:args.length=L.params.size) (tD:∀ t ∈ L.params.toList,t < L.nt)
 (h:bH C L.nt (.round o) L.assign (XX C o L.body L.nt R) ⟨yk L.ρ L.params.toList args⟩ U):ni C o args U R:=by
 intro g w vs x hs hG ha hx
 obtain ⟨p,k1,k2,fn,tmps,defers,k3,k4,k5⟩:=hs.live o _ (St.og.1 hL)
 rw [hx] at k1; cases k1
 have wL:(getObj x.aF).run C.P w=.ok (.loop { state:=L.state,pending:=L.gh,fn,tmps,params:=L.params,assign:=L.assign,body:=L.body,defers }) w:=by simp [getObj,Sem.run,k3]
 have fh:vs.length=L.params.size:=by rw [ha.length,hargs]
 obtain ⟨z1,z2⟩:=Jo (g:=g) (ρ:=L.ρ) (tmps:=tmps) L.params.toList args vs L.ρ tmps k5 (fun t ht=>by rw [k4]; exact tD t ht) ha
 have adB:(L.params.zip vs.toArray).foldl (fun (tmps:Array Value) (p:Tmp × Value)=>tmps.setIfInBounds p.1 p.2) tmps=(L.params.toList.zip vs).foldl (fun (tmps:Array Value) (p:Tmp × Value)=>tmps.setIfInBounds p.1 p.2) tmps:=by
  rw [<- Array.foldl_toList]; congr 1; simp
 refine ⟨fn,(L.params.toList.zip vs).foldl (fun (tmps:Array Value) (p:Tmp × Value)=>tmps.setIfInBounds p.1 p.2) tmps,L.assign,L.body,?_,?_⟩
 . simp only [Instr.yield,Instr.getLoop,ck,wL,cK,cP,List.size_toArray,fh,ne_eq,not_true_eq_false,if_false,fE]
   rw [<- adB]
 . refine roundIn_of_wpIn trivial ?_
   have h1:=h g w { tmps:=(L.params.toList.zip vs).foldl (fun (tmps:Array Value) (p:Tmp × Value)=>tmps.setIfInBounds p.1 p.2) tmps,defers:=[] } (some x.aF) hs hG z2 (by rw [<- k4]; exact z1) ⟨x,hx,rfl⟩
   have uk:L.assign.wpIn (Fence.wide.inRound x.aF) 0 C.P _ _ _:=h1
   refine wpIn_mono uk ?_
   rintro e a1 w1 ⟨q1,g1,aR,ρ1,ms,q2,q3,q4,q5,q6,q7⟩
   cases e with
   | normal =>
     obtain ⟨L1,r1,r2,r3⟩:=q7
     obtain ⟨p,k1,k2,fn,tmps,defers,k3,k4,k5⟩:=q5.live o _ (St.og.1 r1)
     rw [q4.place _ _ hx] at k1; cases k1
     have wL:(getObj x.aF).run C.P w1=.ok (.loop { state:=L1.state,pending:=L1.gh,fn,tmps,params:=L1.params,assign:=L1.assign,body:=L1.body,defers }) w1:=by simp [getObj,Sem.run,k3]
     have ID:∀ y,(setObj x.aF y).run C.P w1=.ok () { w1 with heap:=w1.heap.setIfInBounds x.aF y }:=fun y=>by simp [setObj,Sem.run,k3]
     have rU:=q5.sA (L':={ L1 with state:=.busy }) (fn:=fn) (defers:=defers) r1 (q4.place _ _ hx) k4 k5
     refine ⟨_,by simp only [Instr.beginRound,Instr.getLoop,ck,wL,cK,cP,ID,r2]; rfl,?_⟩
     have h2:=r3 g1 _ a1 (some x.aF) rU (hG.mono q4) q6 q1 ⟨x,q4.place _ _ hx,rfl⟩
     have u7:L.body.wpIn (Fence.wide.inRound x.aF) 0 C.P _ _ _:=h2
     refine wpIn_mono u7 ?_
     rintro e a2 w2 ⟨Xb,g2,bh,rR,Jb,q2',q3',q4',q5',q6',Mc⟩
     have hx2:=(q4.trans q4').place _ _ hx
     have fin:∀ (L2:fL) (jump:Option Code) (st:LoopState),bh.loop o=some L2->(if jump.isNone then LoopState.ready else .done)=st->R (.ret (.bool jump.isNone)) (bh.set o (.loop { L2 with state:=st,gh:=jump })) ->
      ∃ v w',(Instr.endRound x.aF jump).run C.P w2=.ok v w'/\pH g R (.returned v) w':=fun L2 jump st hl fV hR=>by
      obtain ⟨p,k1,k2,fn,tmps,defers,k3,k4,k5⟩:=q5'.live o _ (St.og.1 hl)
      rw [hx2] at k1; cases k1
      have wL:(getObj x.aF).run C.P w2=.ok (.loop { state:=L2.state,pending:=L2.gh,fn,tmps,params:=L2.params,assign:=L2.assign,body:=L2.body,defers }) w2:=by simp [getObj,Sem.run,k3]
      have ID:∀ y,(setObj x.aF y).run C.P w2=.ok () { w2 with heap:=w2.heap.setIfInBounds x.aF y }:=fun y=>by simp [setObj,Sem.run,k3]
      have hs3:=q5'.sA (L':={ L2 with state:=st,gh:=jump }) (fn:=fn) (defers:=defers) hl hx2 k4 k5
      refine ⟨.bool jump.isNone,_,by simp only [Instr.endRound,Instr.getLoop,ck,wL,cK,cP,ID,fV],g2,_,.bool jump.isNone,q4.trans q4',hs3,by simp only [ay],hR⟩
     cases e with
     | normal=>obtain ⟨L2,hl,hR⟩:=Mc; exact fin L2 none .ready hl rfl hR
     | ret=>obtain ⟨L2,hl,hR⟩:=Mc; exact fin L2 (some .ret) .done hl rfl hR
     | exit id=>obtain ⟨L2,hl,hR⟩:=Mc; exact fin L2 (some (.exit id)) .done hl rfl hR
     | panic ch=>obtain ⟨x,v,_,_,hf⟩:=Mc; exact hf.elim
     | goto l=>exact Mc.elim
     | outgrown=>exact Mc.elim
   | panic ch=>obtain ⟨x,v,_,_,hf⟩:=q7; exact hf.elim
   | ret=>exact q7.elim
   | exit id=>exact q7.elim
   | goto l=>exact q7.elim
   | outgrown=>exact q7.elim
end
end Go.Rip
namespace Go.Rip
open Go.RowKit
section
variable {C:cS} {g:Gh} {U ad:St} {w:World} {nt:Nat} {nm:Bool} {ro:Ro} {fr:Option Nat} {Q:Ex->Env->St->Prop} {ρ ez:Env} {mu:Bool}
theorem uD {l:List Operand} (h:∀ x ∈ l,ρ.ev C x=ez.ev C x):l.map (ρ.ev C)=l.map (ez.ev C):=List.map_congr_left h
theorem yN {parts:Array (Nat × Operand)} (h:∀ x ∈ (parts.toList.map (·.2)).toArray,ρ.ev C x=ez.ev C x):nv C ρ parts=nv C ez parts:=by
 unfold nv
 apply List.map_congr_left
 intro p hp
 rw [h p.2 (by simp; exact ⟨p.1,by simpa using hp⟩)]
theorem QC (o:Op) (h:∀ x ∈ o.operands,ρ.ev C x=ez.ev C x):kn C mu o ρ U=kn C mu o ez U:=by
 cases o with
 | call c =>
   obtain ⟨callee,⟨args⟩,⟨XG⟩⟩:=c
   simp only [kn,Ax]
   have ha:args.map (ρ.ev C)=args.map (ez.ev C):=uD fun x hx=>h x (by simp only [Op.operands,Call.operands]; rw [Array.mem_append]; exact .inr (by simpa using hx))
   cases callee with
   | value f =>
     show jk C.P (ρ.ev C f) (args.map (ρ.ev C))=jk C.P (ez.ev C f) (args.map (ez.ev C))
     rw [ha,h f (by simp [Op.operands,Call.operands])]
   | invoke r m=>rfl
   | builtin b =>
     have hm:∀ x ∈ args,ρ.ev C x=ez.ev C x:=fun x hx=>h x (by simp only [Op.operands,Call.operands]; rw [Array.mem_append]; exact .inr (by simpa using hx))
     split <;> simp_all
 | build t parts=>simp only [kn]; rw [yN h]
 | buildSlice t n parts=>simp only [kn]; rw [yN h]
 | makeFunc fn first cap =>
   simp only [kn]
   rw [uD (l:=first.toList) fun x hx=>h x (by simp [Op.operands]; exact .inl (by simpa using hx)),uD (l:=cap.toList) fun x hx=>h x (by simp [Op.operands]; exact .inr (by simpa using hx))]
 | slice t x lo hi m =>
   cases m with
   | some _=>rfl
   | none =>
     simp only [kn]
     have h1:=h x (by simp [Op.operands])
     have h2:lo.map (ρ.ev C)=lo.map (ez.ev C):=by
      cases lo with
      | none=>rfl
      | some y=>simp only [Option.map_some]; rw [h y (by simp [Op.operands])]
     have h3:hi.map (ρ.ev C)=hi.map (ez.ev C):=by
      cases hi with
      | none=>rfl
      | some y=>simp only [Option.map_some]; rw [h y (by simp [Op.operands])]
     rw [h1,h2,h3]
 | makeMap t r=>cases r <;> rfl
 | next i b=>cases b <;> simp_all [kn,Op.operands]
 | _=>simp_all [kn,Op.operands]
def eM:AV->List Nat
 | .box b _=>[b]
 | .ms b _ _ _ _=>[b]
 | .mp m=>[m]
 | .it o=>[o]
 | .vec _ (.own τ) _=>[τ]
 | _=>[]
theorem X3 {b:Nat} (h:ad.live b=U.live b):ad.box b=U.box b:=by simp only [St.box,h]
theorem J9 {p:AV} (h:∀ b ∈ eM p,ad.live b=U.live b):nr ad p=nr U p:=by
 cases p <;> simp only [nr]
 rw [X3 (h _ (by simp [eM]))]
def quiet:Op->Bool
 | .move _ | .assign _ | .pick .. | .load .. | .build .. | .buildSlice .. | .fieldAddr .. | .field .. | .indexAddr .. | .index .. | .binOp .. | .unOp .. | .convert .. | .nilCheck _ | .lookup .. | .extract .. | .makeInterface .. | .makeFunc ..
 | .slice ..=>true
 | .call c=>match c.callee with
   | .value _=>true
   | .builtin .len | .builtin .min | .builtin .max=>true
   | _=>false
 | _=>false
def pI:Op->Bool
 | .load .. | .lookup ..=>true
 | _=>false
theorem YQ (o:Op) (hq:quiet o=true) (h:pI o=true->∀ x ∈ o.operands,∀ b ∈ eM (ρ.ev C x),ad.live b=U.live b):kn C mu o ρ ad=kn C mu o ρ U:=by
 cases o with
 | call c =>
   obtain ⟨callee,⟨args⟩,⟨XG⟩⟩:=c
   simp only [kn,Ax]
   cases callee with
   | value f=>rfl
   | invoke r m=>rfl
   | builtin b =>
     cases b <;> simp only [quiet,bQ] at hq
     all_goals (split <;> first
      | rfl
      | (simp only [IY]; done)
      | contradiction
      | simp_all)
 | load t a =>
   simp only [kn,vj]
   rw [J9 (h rfl a (by simp [Op.operands]))]
 | lookup t m k ok =>
   have:=h rfl m (by simp [Op.operands])
   simp only [kn,wY]
   generalize ρ.ev C m=y at this ⊢
   cases y <;> simp_all [eM,St.mp,kH]
 | slice t x lo hi m=>cases m <;> rfl
 | _=>first | rfl | simp [quiet] at hq
theorem aC.wp_mono {K K':AV->St->Prop} {Kp:AV->St->Prop} (hk:∀ v U,K v U->K' v U):∀ (r:aC) {U:St},r.wp C U K Kp->r.wp C U K' Kp
 | .val _,_,h=>hk _ _ h
 | .jd _ _ _,_,h=>hk _ _ h
 | .new _ _ _,_,h=>fun b hb=>hk _ _ (h b hb)
 | .mj _ _,_,h=>fun p hp=>hk _ _ (h p hp)
 | .enter _ _,_,h=>ae.mono h fun r U hr=>by cases r <;> first | exact hk _ _ hr | exact hr
 | .yield _ _,_,h=>ni.mono h fun r U hr=>by cases r <;> first | exact hk _ _ hr | exact hr
 | .panic _,_,h=>h
 | @aC.cond _ _ r,_,h=>⟨h.1,aC.wp_mono hk r h.2⟩
 | .bad,_,h=>h
theorem La {x:Operand} {dst:Option Tmp} {v:AV} (h:∀ d,dst=some d->x ≠ .tmp d):(ρ.eN dst v).ev C x=ρ.ev C x:=by
 cases dst with
 | none=>rfl
 | some d =>
   cases x <;> simp only [Env.eN,Env.put,Env.ev]
   rename_i t
   rw [if_neg (fun e=>h d rfl (by rw [e]))]
theorem L9 (ops:Array Oper) (o:Oper) {dst:Option Tmp} {v:AV} (h:∀ d,dst=some d->d ∉ o.looksAt ops):kn C mu o.op (ρ.eN dst v) U=kn C mu o.op ρ U :=
 QC o.op fun x hx=>La fun d hd hxd=>h d hd (by
  subst hxd
  exact List.mem_append_left _ (List.mem_filterMap.2 ⟨.tmp d,by simpa using hx,rfl⟩))
theorem Fp (ops:Array Oper) (o:Oper) {dst:Option Tmp} {v:AV} (h:∀ d,dst=some d->d ∉ o.looksAt ops):iB ops (ρ.eN dst v) o.guard=iB ops ρ o.guard:=by
 cases dst with
 | none=>rfl
 | some d =>
   have hd:=h d rfl
   unfold iB
   cases hg:o.guard with
   | none=>rfl
   | some jw =>
     obtain ⟨j,want⟩:=jw
     simp only
     cases hb:(ops[j]?).bind (·.dst) with
     | none=>rfl
     | some t =>
       have cr:t ≠ d:=fun e=>by
        subst e
        apply hd
        unfold Oper.looksAt
        rw [hg]
        simp only [hb,Option.toList_some,gu,jX,or_true]
       simp only [Env.eN,Env.put,if_neg cr]
theorem QM {d d':Option Tmp} {v v':AV} (h:∀ t,d=some t->d' ≠ some t):(ρ.eN d v).eN d' v'=(ρ.eN d' v').eN d v:=by
 cases d <;> cases d' <;> simp only [Env.eN]
 rename_i a b
 have cr:b ≠ a:=fun e=>h a rfl (by rw [e])
 simp only [Env.put,Env.mk.injEq]
 funext t
 by_cases h1:t=b
 . subst h1; rw [if_pos rfl,if_neg cr,if_pos rfl]
 . rw [if_neg h1]
   by_cases h2:t=a
   . rw [if_pos h2,if_pos h2]
   . rw [if_neg h2,if_neg h2,if_neg h1]
def oV (mu:List Nat) (o:Oper):Bool:=match o.dst with | some d=>mu.contains d | none=>false
def lY (C:cS) (mu:List Nat) (ops:Array Oper) (I:St->Prop) (i:Nat) (K:Env->St->Prop) (Kp:AV->St->Prop) (ρ:Env) (U:St):Prop :=
 match ops[i]? with
 | none=>K ρ U
 | some o=>av (iB ops ρ o.guard) ((kn C (oV mu o) o.op ρ U).wp C U (fun v ad=>I ad/\K (ρ.eN o.dst v) ad) Kp) (K (ρ.eN o.dst (.aH [])) U)
def W8 (o:Oper) (k:Nat):Bool:=o.after.toList.any fun e=>Region.binds .any e && Nat.beq e.on k
def sQ (ops:Array Oper) (i:Nat):Bool:=match ops[i]? with
 | some o=>(List.range ops.size).all fun k=>Nat.beq k i || (W8 o k || o.after.toList.any fun e=>Region.binds .any e && (match ops[e.on]? with | some m=>W8 m k | none=>false))
 | none=>false
def Dn (ops:Array Oper) (listed:Array Bool):Prop:=∀ m o,ops[m]?=some o->listed.getD m false=true->∀ e ∈ o.after,Region.binds .any e=true->listed.getD e.on false=true
theorem Jk {o:Oper} {k:Nat} (h:W8 o k=true):∃ e ∈ o.after,Region.binds .any e=true/\e.on=k:=by
 unfold W8 at h
 rw [List.any_eq_true] at h
 obtain ⟨e,he,hb⟩:=h
 simp only [bS] at hb
 exact ⟨e,by simpa using he,hb.1,fp hb.2⟩
theorem Hn {ops:Array Oper} {i:Nat} {listed:Array Bool} (hD:Dn ops listed) (hr:i ∈ Region.ready .any ops listed) (h:sQ ops i=true) (k:Nat) (hk:k < ops.size) (cr:k ≠ i):listed.getD k false=true:=by
 obtain ⟨_,o,ho,cm⟩:=mem_ready.1 hr
 unfold sQ at h
 rw [ho] at h
 simp only [fe,List.mem_range,jW] at h
 rcases h k hk with h | h | h
 . exact absurd (fp h) cr
 . obtain ⟨e,he,hb,C6⟩:=Jk h
   rw [<- C6]; exact cm e he hb
 . rw [List.any_eq_true] at h
   obtain ⟨e,he,hb⟩:=h
   rw [bS] at hb
   have h1:=cm e (by simpa using he) hb.1
   have h2:=hb.2
   split at h2
   . rename_i m hm
     obtain ⟨e',mV,fC,afx⟩:=Jk h2
     rw [<- afx]; exact hD _ m hm h1 e' mV fC
   . cases h2
def GR (o:Oper):List Nat:=o.after.toList.filterMap fun e=>if Region.binds .any e=true then some e.on else none
def DO (ops:Array Oper):Nat->List Nat->List Nat
 | 0,l=>l
 | k+1,l=>DO ops k (if l.any (Nat.beq k)=true then (match ops[k]? with | some o=>GR o++l | none=>l) else l)
def K6 (ops:Array Oper) (i:Nat):Bool:=match ops[i]? with
 | some o=>let l:=DO ops ops.size (GR o); (List.range ops.size).all fun k=>Nat.beq k i || l.any (Nat.beq k)
 | none=>false
def o7 (ops:Array Oper) (i:Nat):Bool:=sQ ops i || K6 ops i
theorem Yt {ops:Array Oper} {i:Nat} (h:sQ ops i=true):o7 ops i=true:=by unfold o7; rw [h]; rfl
theorem EZ {o:Oper} {k:Nat} (h:k ∈ GR o):∃ e ∈ o.after,Region.binds .any e=true/\e.on=k:=by
 unfold GR at h
 rw [List.mem_filterMap] at h
 obtain ⟨e,he,h⟩:=h
 split at h
 . rename_i hb; exact ⟨e,by simpa using he,hb,by simpa using h⟩
 . cases h
theorem Gt {ops:Array Oper} {listed:Array Bool} (hD:Dn ops listed):∀ (k:Nat) (l:List Nat),(∀ x ∈ l,listed.getD x false=true)->∀ x ∈ DO ops k l,listed.getD x false=true
 | 0,l,h,x,hx=>h x hx
 | k+1,l,h,x,hx=>by
   rw [DO] at hx
   refine Gt hD k _ (fun y hy=>?_) x hx
   split at hy
   . rename_i hk
     rw [List.any_eq_true] at hk
     obtain ⟨z,hz,PW⟩:=hk
     obtain rfl:=fp PW
     split at hy
     . rename_i o ho
       rw [gu] at hy
       rcases hy with hy | hy
       . obtain ⟨e,he,hb,rfl⟩:=EZ hy
         exact hD _ o ho (h _ hz) e he hb
       . exact h y hy
     . exact h y hy
   . exact h y hy
theorem Df {ops:Array Oper} {i:Nat} {listed:Array Bool} (hD:Dn ops listed) (hr:i ∈ Region.ready .any ops listed) (h:o7 ops i=true) (k:Nat) (hk:k < ops.size) (cr:k ≠ i):listed.getD k false=true:=by
 unfold o7 at h
 rw [jW] at h
 rcases h with h | h
 . exact Hn hD hr h k hk cr
 obtain ⟨_,o,ho,cm⟩:=mem_ready.1 hr
 unfold K6 at h
 rw [ho] at h
 simp only [fe,List.mem_range,jW] at h
 rcases h k hk with h | h
 . exact absurd (fp h) cr
 . rw [List.any_eq_true] at h
   obtain ⟨z,hz,PW⟩:=h
   obtain rfl:=fp PW
   refine Gt hD ops.size _ (fun y hy=>?_) _ hz
   obtain ⟨e,he,hb,rfl⟩:=EZ hy
   exact cm e he hb
theorem Dn.set {ops:Array Oper} {listed:Array Bool} (hD:Dn ops listed) {i:Nat} (hr:i ∈ Region.ready .any ops listed):Dn ops (listed.setIfInBounds i true):=by
 intro m o ho hl e he hb
 obtain ⟨_,oi,WH,cm⟩:=mem_ready.1 hr
 by_cases Ir:i=m
 . subst Ir
   rw [WH] at ho; cases ho
   exact getD_set_true (cm e he hb)
 . rw [getD_set_ne false Ir] at hl
   exact getD_set_true (hD m o ho hl e he hb)
theorem Dn.none (ops:Array Oper) (n:Nat):Dn ops (Array.replicate n false):=by
 intro m o ho hl
 rw [Array.getD_eq_getD_getElem?,Array.getElem?_replicate] at hl
 split at hl <;> simp at hl
def Ix (ops:Array Oper) (I:St->Prop) (i:Nat) (U:St):Prop:=o7 ops i=true\/I U
def nj (C:cS) (mu:List Nat) (ops:Array Oper) (I:St->Prop) (K:Env->St->Prop) (Kp:AV->St->Prop):Nat->Array Bool->Env->St->Prop
 | 0,listed,ρ,U=>Region.ready .any ops listed=[]/\K ρ U
 | n+1,listed,ρ,U=>(Region.ready .any ops listed=[]->K ρ U)/\∀ i ∈ Region.ready .any ops listed,lY C mu ops (Ix ops I i) i (nj C mu ops I K Kp n (listed.setIfInBounds i true)) Kp ρ U
theorem Mu {mu:List Nat} {ops:Array Oper} {I:St->Prop} (cO:lW nt ops=true) (g0:Gh):∀ (fuel t:Nat) (listed:Array Bool) (g:Gh) (U:St) (w:World) (ρ:Env) (a:Act) (ds:List Deferred),Gh.Le g0 g->bo g U w->iU C g->ia g ρ a.tmps->a.tmps.size=nt->a.defers=ds ->
 nj C mu ops I (KQ Q) (yM Q) fuel listed ρ U->wpOpsIn (FW fr) 0 C.P ops (rD g0 nt nm ds Q) (Region.linearise.go .any ops fuel t listed []) a w:=by
 intro fuel
 induction fuel with
 | zero =>
   intro t listed g U w ρ a ds h0 hs hG hr hn hd h
   simp only [Region.linearise.go,List.reverse_nil,wpOpsIn]
   exact ⟨hn,g,U,ρ,[],by simpa using hd,mN _ _ _,h0,hs,hr,h.2⟩
 | succ fuel ih =>
   intro t listed g U w ρ a ds h0 hs hG hr hn hd h
   obtain ⟨h1,h2⟩:=h
   simp only [Region.linearise.go]
   change wpOpsIn (FW fr) 0 C.P ops (rD g0 nt nm ds Q) (match (Region.ready .any ops listed)[t % (Region.ready .any ops listed).length]? with
    | some i=>Region.linearise.go .any ops fuel (t / (Region.ready .any ops listed).length) (listed.setIfInBounds i true) [i]
    | none=>[].reverse) a w
   cases hi:(Region.ready .any ops listed)[t % (Region.ready .any ops listed).length]? with
   | none =>
     have Em:Region.ready .any ops listed=[]:=by
      cases hr:Region.ready .any ops listed with
      | nil=>rfl
      | cons x xs =>
        rw [hr] at hi
        have aQ:t % (x::xs).length < (x::xs).length:=Nat.mod_lt _ (by simp)
        simp at hi
        simp at aQ
        omega
     simp only [List.reverse_nil,wpOpsIn]
     exact ⟨hn,g,U,ρ,[],by simpa using hd,mN _ _ _,h0,hs,hr,h1 Em⟩
   | some i =>
     dsimp only
     rw [linearise_go_acc,List.reverse_singleton,List.singleton_append]
     simp only [wpOpsIn]
     have fV:=h2 i (gr hi)
     unfold lY at fV
     cases ho:ops[i]? with
     | none =>
       rw [ho] at fV
       exact ih _ _ g U w ρ a ds h0 hs hG hr hn hd fV
     | some o =>
       rw [ho] at fV
       dsimp only at fV ⊢
       have oc:o ∈ ops.toList:=gr (l:=ops.toList) (i:=i) (a:=o) (by rw [lO]; exact ho)
       have Iv:Ce nt o=true:=by
        unfold lW at cO
        rw [fe] at cO
        exact cO o oc
       have Ux:∀ d,o.dst=some d->d < a.tmps.size:=fun d yQ=>by
        simp only [Ce,yQ,bS,ee] at Iv
        rw [hn]; exact Iv.1
       have go:∀ g' ad w' x v,Gh.Le g g'->bo g' ad w'->ay g' x v->nj C mu ops I (KQ Q) (yM Q) fuel (listed.setIfInBounds i true) (ρ.eN o.dst x) ad->wpOpsIn (FW fr) 0 C.P ops (rD g0 nt nm ds Q) (Region.linearise.go .any ops fuel (t / (Region.ready .any ops listed).length) (listed.setIfInBounds i true) []) (a.put o.dst v) w':=fun g' ad w' x v hle eU hx hk =>
        ih _ _ g' ad w' (ρ.eN o.dst x) (a.put o.dst v) ds (h0.trans hle) eU (hG.mono hle) ((hr.mono hle).eN Ux hx) (by rw [(pn a o.dst v).2]; exact hn) (by rw [(pn a o.dst v).1]; exact hd) hk
       cases PD:iB ops ρ o.guard <;> rw [PD] at fV <;> simp only [av] at fV
       rename_i b
       have hw:=Bf hr PD
       cases b
       . rw [if_neg (by rw [hw]; simp)]
         exact ⟨fun _ _=>trivial,go g U w (.aH []) undef (Gh.Le.refl g) hs vE (fV.2 rfl)⟩
       . rw [if_pos hw]
         refine qC Iv hs hG hr hn (fV.1 rfl) (fun g' ad w' x v hle eU hx hk=>go g' ad w' x v hle eU hx hk.2) ?_ (ds:=ds)
         intro g' ad w' x v hle eU hx hk
         exact ⟨hn,g',ad,ρ,[],by simpa using hd,mN _ _ _,h0.trans hle,eU,hr.mono hle,x,v,rfl,hx,hk ρ⟩
theorem bH.z8 {id:Nat} {ops:Array Oper} (mu:List Nat) (I:St->Prop) (hm:C.P.follows .mixedOrders=true) (cO:lW nt ops=true) (h:nj C mu ops I (KQ Q) (yM Q) ops.size (Array.replicate ops.size false) ρ U):bH C nt ro (.region id ops true) Q ρ U:=by
 intro g w a fr h1 h2 h3 h4 yR
 refine wpIn_region_draw fun t=>?_
 simp only [Region.schedule,hm,Bool.true_or,if_true,Region.linearise]
 have hs:=h1.grow (lG w)
 exact Mu cO g ops.size t _ g U _ ρ a a.defers (Gh.Le.refl g) hs h2 h3 h4 rfl h
def aC.yv (C:cS):aC->AV->Prop
 | .val u,v=>u=v
 | @aC.cond p _ r,v=>p/\r.yv C v
 | .enter f args,v=>Pure C f args v
 | _,_=>False
theorem aC.Ow {K:AV->St->Prop} {Kp:AV->St->Prop}:∀ (r:aC) {v:AV},r.yv C v->K v U->r.wp C U K Kp
 | .val _,_,h,hk=>by simp only [aC.yv] at h; subst h; exact hk
 | @aC.cond _ _ r,_,h,hk=>⟨h.1,aC.Ow r h.2 hk⟩
 | .enter _ _,_,h,hk=>h U _ hk
 | .jd _ _ _,_,h,_=>h.elim
 | .new _ _ _,_,h,_=>h.elim
 | .mj _ _,_,h,_=>h.elim
 | .yield _ _,_,h,_=>h.elim
 | .panic _,_,h,_=>h.elim
 | .bad,_,h,_=>h.elim
def da (B:List Nat) (au U:St):Prop:=∀ b ∈ B,U.live b=au.live b
def Still (C:cS) (mu:List Nat) (ops:Array Oper) (B:List Nat) (au:St) (o:Oper) (ρ:Env) (v:AV):Prop :=
 (iB ops ρ o.guard=.bool true/\quiet o.op=true/\(pI o.op=true->∀ x ∈ o.op.operands.toList,∀ b ∈ eM (ρ.ev C x),b ∈ B)/\(kn C (oV mu o) o.op ρ au).yv C v)\/(iB ops ρ o.guard=.bool false/\v=.aH [])
theorem Still.put {mu:List Nat} {ops:Array Oper} {B:List Nat} {au:St} {o:Oper} {v:AV} (h:Still C mu ops B au o ρ v) {dst:Option Tmp} {u:AV} (hd:∀ d,dst=some d->d ∉ o.looksAt ops):Still C mu ops B au o (ρ.eN dst u) v:=by
 unfold Still at h ⊢
 rw [Fp ops o hd,L9 ops o hd]
 rcases h with ⟨h1,h2,h3,h4⟩ | h
 . refine .inl ⟨h1,h2,fun IB x hx b hb=>h3 IB x hx b ?_,h4⟩
   rw [La fun d yQ hxd=>hd d yQ (by
    subst hxd
    exact List.mem_append_left _ (List.mem_filterMap.2 ⟨.tmp d,hx,rfl⟩))] at hb
   exact hb
 . exact .inr h
theorem Still.step {mu:List Nat} {ops:Array Oper} {B:List Nat} {au:St} {o:Oper} {v:AV} {i:Nat} {K:Env->St->Prop} {Kp:AV->St->Prop} (hi:ops[i]?=some o) (h:Still C mu ops B au o ρ v) (hI:da B au U) {I':St->Prop} (CV:I' U) (hk:K (ρ.eN o.dst v) U) :
 lY C mu ops I' i K Kp ρ U:=by
 unfold lY
 rw [hi]
 dsimp only
 rcases h with ⟨h1,h2,h3,h4⟩ | ⟨h1,rfl⟩
 . rw [h1]
   refine ⟨fun _=>?_,fun h=>by cases h⟩
   have e:=YQ (C:=C) (ρ:=ρ) (mu:=oV mu o) (ad:=U) (U:=au) o.op h2 (fun IB x hx b hb=>hI b (h3 IB x (by simpa using hx) b hb))
   rw [e]
   exact aC.Ow _ h4 ⟨CV,hk⟩
 . rw [h1]
   exact ⟨fun h=>(by cases h),fun _=>hk⟩
theorem DM {mu:List Nat} {ops:Array Oper} {I:St->Prop} {i:Nat} {K K':Env->St->Prop} {Kp:AV->St->Prop} (hI:I U) (hk:∀ ρ U,I U->K ρ U->K' ρ U) (h:lY C mu ops I i K Kp ρ U):lY C mu ops I i K' Kp ρ U:=by
 unfold lY at h ⊢
 split
 . rename_i ho; rw [ho] at h; exact hk _ _ hI h
 . rename_i o ho
   rw [ho] at h
   dsimp only at h
   cases hg:iB ops ρ o.guard <;> rw [hg] at h <;> simp only [av] at h ⊢
   exact ⟨fun e=>aC.wp_mono (fun v U hv=>⟨hv.1,hk _ _ hv.1 hv.2⟩) _ (h.1 e),fun e=>hk _ _ hI (h.2 e)⟩
theorem CE {mu:List Nat} {ops:Array Oper} {B:List Nat} {au:St} {K:Env->St->Prop} {Kp:AV->St->Prop} {i:Nat} {oi:Oper} {v:AV} (hi:ops[i]?=some oi) :
 ∀ (fuel:Nat) (listed:Array Bool) (ρ:Env) (U:St),
  (∀ j oj,ops[j]?=some oj->j ≠ i->listed.getD j true=false->(∀ e ∈ oj.after,Region.binds .any e=true->e.on ≠ i)->oi.apart ops oj=true) ->
  i ∈ Region.ready .any ops listed->Dn ops listed->Still C mu ops B au oi ρ v->da B au U ->
  nj C mu ops (da B au) K Kp fuel (listed.setIfInBounds i true) (ρ.eN oi.dst v) U->nj C mu ops (da B au) K Kp (fuel+1) listed ρ U:=by
 intro fuel
 induction fuel with
 | zero =>
   intro listed ρ U _ hr hD hy hI H
   refine ⟨fun h=>(by rw [h] at hr; cases hr),fun j hj=>?_⟩
   by_cases zx:j=i
   . subst zx; exact hy.step hi hI (.inr hI) H
   . have:=ready_mono hj zx
     rw [H.1] at this
     cases this
 | succ fuel ih =>
   intro listed ρ U GX hr hD hy hI H
   refine ⟨fun h=>(by rw [h] at hr; cases hr),fun j hj=>?_⟩
   by_cases zx:j=i
   . subst zx; exact hy.step hi hI (.inr hI) H
   . have h1:=H.2 j (ready_mono hj zx)
     obtain ⟨abo,oj,ph,cm⟩:=mem_ready.1 hj
     have Iu:∀ e ∈ oj.after,Region.binds .any e=true->e.on ≠ i:=fun e he hb heq=>by
      have h1:=cm e he hb
      have h0:=(mem_ready.1 hr).1
      rw [heq] at h1
      rcases kO i listed.size with h' | h'
      . simp [h'] at h0 h1; rw [h0] at h1; cases h1
      . simp [yn h'] at h1
     obtain ⟨a1,a2,a3⟩:=Oper.apart_spec (GX j oj ph zx abo Iu)
     have abm:∀ k ok,ops[k]?=some ok->k ≠ i->(listed.setIfInBounds j true).getD k true=false ->
      (∀ e ∈ ok.after,Region.binds .any e=true->e.on ≠ i)->oi.apart ops ok=true:=fun k ok hk Lp hun jC=>by
      refine GX k ok hk Lp ?_ jC
      by_cases hjk:j=k
      . subst hjk; exact abo
      . rw [getD_set_ne true hjk] at hun; exact hun
     have PK:¬ o7 ops j=true:=fun adG=>by
      have h1:=Df hD hj adG i (lN.1 hi).1 (Ne.symm zx)
      have h0:=(mem_ready.1 hr).1
      rcases kO i listed.size with h' | h'
      . simp [h'] at h0 h1; rw [h0] at h1; cases h1
      . simp [yn h'] at h1
     have next:∀ (u:AV) (ad:St),da B au ad->nj C mu ops (da B au) K Kp fuel ((listed.setIfInBounds i true).setIfInBounds j true) ((ρ.eN oi.dst v).eN oj.dst u) ad ->
      nj C mu ops (da B au) K Kp (fuel+1) (listed.setIfInBounds j true) (ρ.eN oj.dst u) ad:=fun u ad CV hA=>by
      refine ih (listed.setIfInBounds j true) (ρ.eN oj.dst u) ad abm (ready_mono hr (Ne.symm zx)) (hD.set hj) (hy.put a3) CV ?_
      rw [Array.setIfInBounds_comm _ _ zx,<- QM (d:=oi.dst) (d':=oj.dst) (fun t ht=>a2 t ht)]
      exact hA
     unfold lY at h1 ⊢
     rw [ph] at h1 ⊢
     dsimp only at h1 ⊢
     rw [Fp ops oj a1,L9 ops oj a1] at h1
     cases hg:iB ops ρ oj.guard <;> rw [hg] at h1 <;> simp only [av] at h1 ⊢
     exact ⟨fun e=>aC.wp_mono (fun u ad hu=>⟨hu.1,next u ad (hu.1.resolve_left PK) hu.2⟩) _ (h1.1 e),fun e=>next _ U hI (h1.2 e)⟩
def ja (ops:Array Oper):List (Bool × Nat)->Array Bool->Bool
 | [],listed=>(Region.ready .any ops listed).isEmpty
 | (true,i)::r,listed=>(Region.ready .any ops listed).contains i && Region.free .any ops listed i && ja ops r (listed.setIfInBounds i true)
 | (false,i)::r,listed=>(Region.ready .any ops listed == [i]) && ja ops r (listed.setIfInBounds i true)
def my (C:cS) (mu:List Nat) (ops:Array Oper) (B:List Nat) (au:St) (K:Env->St->Prop) (Kp:AV->St->Prop):List (Bool × Nat)->Env->St->Prop
 | [],ρ,U=>K ρ U
 | (true,i)::r,ρ,U=>∃ o v,ops[i]?=some o/\Still C mu ops B au o ρ v/\my C mu ops B au K Kp r (ρ.eN o.dst v) U
 | (false,i)::r,ρ,U=>lY C mu ops (Ix ops (da B au) i) i (my C mu ops B au K Kp r) Kp ρ U
theorem Vb {ops:Array Oper} {i:Nat} {listed:Array Bool} (hD:Dn ops listed) (hi:i ∈ Region.ready .any ops listed) (ha:o7 ops i=true):∀ {r:List (Bool × Nat)},ja ops r (listed.setIfInBounds i true)=true->r=[]
 | [],_=>rfl
 | (b,k)::r,h=>by
   exfalso
   have hk:k ∈ Region.ready .any ops (listed.setIfInBounds i true):=by
    cases b with
    | true=>simp only [ja,bS] at h; simpa using h.1.1
    | false=>simp only [ja,bS,beq_iff_eq] at h; rw [h.1]; simp
   obtain ⟨h0,ok,cO,_⟩:=mem_ready.1 hk
   have zw:=(mem_ready.1 hi).1
   have cr:k ≠ i:=fun e=>by
    subst e
    have aQ:k < listed.size:=by
     rcases kO k listed.size with h | h
     . exact h
     . simp [yn h] at zw
    simp [aQ] at h0
   have h1:=Df hD hi ha k (lN.1 cO).1 cr
   rw [getD_set_ne true (Ne.symm cr)] at h0
   rcases kO k listed.size with h' | h'
   . simp [h'] at h0 h1; rw [h0] at h1; cases h1
   . simp [yn h'] at h1
theorem s0 {mu:List Nat} {ops:Array Oper} {B:List Nat} {au:St} {K:Env->St->Prop} {Kp:AV->St->Prop}:∀ (dt:List (Bool × Nat)) (listed:Array Bool) (ρ:Env) (U:St),ja ops dt listed=true->Dn ops listed->(dt=[]\/da B au U)->my C mu ops B au K Kp dt ρ U ->
 nj C mu ops (da B au) K Kp dt.length listed ρ U
 | [],listed,ρ,U,hp,hD,hI,h=>⟨by simpa [ja] using hp,h⟩
 | (true,i)::r,listed,ρ,U,hp,hD,hI,h=>by
   have hI:=hI.resolve_left (by simp)
   simp only [ja,bS] at hp
   obtain ⟨o,v,ho,fV,hr⟩:=h
   exact CE ho r.length listed ρ U (Region.free_spec ho hp.1.2) (by simpa using hp.1.1) hD fV hI (s0 r _ _ U hp.2 (hD.set (by simpa using hp.1.1)) (.inr hI) hr)
 | (false,i)::r,listed,ρ,U,hp,hD,hI,h=>by
   have hS:=hI.resolve_left (by simp)
   simp only [ja,bS,beq_iff_eq] at hp
   refine ⟨fun h0=>(by rw [hp.1] at h0; cases h0),fun j hj=>?_⟩
   have Ft:=hj
   rw [hp.1,jX] at hj
   subst hj
   exact DM (.inr hS) (fun ez ad CV hr=>s0 r _ ez ad hp.2 (hD.set Ft) (CV.elim (fun ha=>.inl (Vb hD Ft ha hp.2)) .inr) hr) h
theorem bH.tR {id:Nat} {ops:Array Oper} (mu:List Nat) (B:List Nat) (dt:List (Bool × Nat)) (hm:C.P.follows .mixedOrders=true) (cO:lW nt ops=true) (hp:(ja ops dt (Array.replicate ops.size false) && (dt.length == ops.size))=true)
 (h:my C mu ops B U (KQ Q) (yM Q) dt ρ U):bH C nt ro (.region id ops true) Q ρ U:=by
 simp only [bS,beq_iff_eq] at hp
 refine bH.z8 mu (da B U) hm cO ?_
 have:=s0 dt _ ρ U hp.1 (Dn.none _ _) (.inr fun _ _=>rfl) h
 rw [hp.2] at this
 exact this
theorem aC.CB {K:AV->St->Prop} {Kp yL:AV->St->Prop} (hp:∀ v U,Kp v U->yL v U):∀ (r:aC) {U:St},r.wp C U K Kp->r.wp C U K yL
 | .val _,_,h=>h
 | .jd _ _ _,_,h=>h
 | .new _ _ _,_,h=>h
 | .mj _ _,_,h=>h
 | .enter _ _,_,h=>ae.mono h fun r U hr=>by cases r <;> first | exact hr | exact hp _ _ hr
 | .yield _ _,_,h=>ni.mono h fun r U hr=>by cases r <;> first | exact hr | exact hp _ _ hr
 | .panic _,_,h=>hp _ _ h
 | @aC.cond _ _ r,_,h=>⟨h.1,aC.CB hp r h.2⟩
 | .bad,_,h=>h
theorem kg {mu:List Nat} {ops:Array Oper} {B:List Nat} {au:St} {K K':Env->St->Prop} {Kp yL:AV->St->Prop} (hk:∀ ρ U,K ρ U->K' ρ U) (hp:∀ v U,Kp v U->yL v U):∀ (l:List (Bool × Nat)) {ρ:Env} {U:St},my C mu ops B au K Kp l ρ U->my C mu ops B au K' yL l ρ U
 | [],_,_,h=>hk _ _ h
 | (true,i)::r,ρ,U,h=>by
   obtain ⟨o,v,h1,h2,h3⟩:=h
   exact ⟨o,v,h1,h2,kg hk hp r h3⟩
 | (false,i)::r,ρ,U,h=>by
   simp only [my,lY] at h ⊢
   split
   . rename_i ho; rw [ho] at h; exact kg hk hp r h
   . rename_i o ho
     rw [ho] at h
     dsimp only at h
     cases hg:iB ops ρ o.guard <;> rw [hg] at h <;> simp only [av] at h ⊢
     exact ⟨fun e=>aC.wp_mono (fun v U hv=>⟨hv.1,kg hk hp r hv.2⟩) _ (aC.CB hp _ (h.1 e)),fun e=>kg hk hp r (h.2 e)⟩
end
end Go.Rip
namespace Go.Rip
open Go.RowKit
def ru (kk:IntKind) (a:Int) (v:AV) (kv:List AV × List AV):List AV × List AV:=gV (.int kk a) v kv.1 kv.2
theorem ve (kk:IntKind) (a b:Int):ke (.int kk a) (.int kk b)=decide (a < b):=by simp [ke]
def y3 (kk:IntKind) (kv:List AV × List AV):Prop:=kv.1.length=kv.2.length/\∀ y ∈ kv.1,∃ n,y=.int kk n
theorem IL (k v:AV):∀ ks vs:List AV,ks.length=vs.length->(gV k v ks vs).1.length=(gV k v ks vs).2.length
 | [],[],_=>rfl
 | y::ys,w::ws,h=>by
   simp only [gV]
   split
   . simpa using h
   . simpa using IL k v ys ws (by simpa using h)
 | [],_::_,h=>by simp at h
 | _::_,[],h=>by simp at h
theorem LC {kk:IntKind} {a:Int} {v:AV} {kv:List AV × List AV} (h:y3 kk kv):y3 kk (ru kk a v kv) :=
 ⟨IL _ _ _ _ h.1,fun y hy=>by
   rcases xQ _ _ y hy with rfl | hy
   . exact ⟨a,rfl⟩
   . exact h.2 y hy⟩
theorem FG {kk:IntKind} {a b:Int} {v w:AV} (Li:a ≠ b):∀ ks vs:List AV,ks.length=vs.length->(∀ y ∈ ks,∃ n,y=.int kk n) ->
 gV (.int kk a) v (gV (.int kk b) w ks vs).1 (gV (.int kk b) w ks vs).2=gV (.int kk b) w (gV (.int kk a) v ks vs).1 (gV (.int kk a) v ks vs).2
 | [],[],_,_=>by
   simp only [gV,ve]
   by_cases h:a < b
   . have:¬ b < a:=by omega
     simp [h,this]
   . have:b < a:=by omega
     simp [h,this]
 | y::ys,x::xs,h,hy=>by
   obtain ⟨n,rfl⟩:=hy _ (List.mem_cons_self ..)
   have ih:=FG (v:=v) (w:=w) Li ys xs (by simpa using h) (fun y hm=>hy y (by simp [hm]))
   simp only [gV,ve]
   by_cases h1:a < n <;> by_cases h2:b < n <;> by_cases h3:a < b
   all_goals (have h4:b < a\/¬ b < a:=by omega)
   all_goals (rcases h4 with h4 | h4 <;> simp only [h1,h2,h3,h4,dZ,eX,if_true,if_false,bQ,gV,ve] <;> first | omega | (simp only [ih]; done) | rfl | (simp [gV,ve,h1,h2,h3,h4,ih]; done))
 | [],_::_,h,_=>by simp at h
 | _::_,[],h,_=>by simp at h
theorem PZ {kk:IntKind} {a b:Int} {v w:AV} (Li:a ≠ b) {kv:List AV × List AV} (h:y3 kk kv):ru kk a v (ru kk b w kv)=ru kk b w (ru kk a v kv):=FG Li kv.1 kv.2 h.1 h.2
structure vM where
 i:Nat
 key:Int
 val:AV
def p9 (kk:IntKind) (l:List vM) (kv:List AV × List AV):List AV × List AV:=l.foldl (fun kv x=>ru kk x.key x.val kv) kv
theorem zE {kk:IntKind}:∀ (sk:List vM) (x:vM) (sn:List vM) {kv:List AV × List AV},y3 kk kv->(∀ y ∈ sk,y.key ≠ x.key)->p9 kk (sk++x::sn) kv=p9 kk (sk++sn) (ru kk x.key x.val kv)
 | [],x,sn,_,_,_=>rfl
 | y::sk,x,sn,kv,h,hk=>by
   show p9 kk (sk++x::sn) (ru kk y.key y.val kv)=p9 kk (sk++sn) (ru kk y.key y.val (ru kk x.key x.val kv))
   rw [zE sk x sn (LC h) (fun z hz=>hk z (by simp [hz])),PZ (hk y (by simp)).symm h]
theorem HR {kk:IntKind} {a:Int}:∀ (ks:List AV) (i:Nat),(∀ y ∈ ks,∃ n,y=.int kk n/\n ≠ a)->ml .i (.int kk a) ks i=some none
 | [],_,_=>rfl
 | y::ys,i,h=>by
   obtain ⟨n,rfl,hn⟩:=h _ (List.mem_cons_self ..)
   have cr:(a == n)=false:=by simpa using Ne.symm hn
   simp only [ml,iy,if_true,cr,bQ,if_false]
   exact HR ys (i+1) fun y hy=>h y (by simp [hy])
theorem set_set (U:St) (b:Nat) (x y:Live):(U.set b x).set b y=U.set b y:=by
 simp only [St.set,St.mk.injEq,and_true]; funext q; split <;> rfl
theorem abG (U:St) (b:Nat) (ks vs:List AV):(U.set b (.mp ks vs)).mp b=some (ks,vs):=by simp [St.mp,St.set]
section
variable {C:cS} {mu:List Nat} {ops:Array Oper} {B:List Nat} {au:St} {K:Env->St->Prop} {Kp:AV->St->Prop}
def acX (C:cS) (ops:Array Oper) (ρ:Env) (t:TypeId) (m:Nat) (kk:IntKind) (listed:Array Bool) (x:vM):Prop:=∃ o v,ops[x.i]?=some o/\o.op=.insert t (.tmp m) (.const (.int kk x.key)) v/\o.dst=none/\o.guard=none/\ρ.ev C v=x.val /\
 ∀ e ∈ o.after,Region.binds .any e=true->listed.getD e.on false=true
def Zk (ops:Array Oper) (listed:Array Bool) (l:List vM):Prop:=∀ j o,ops[j]?=some o->listed.getD j true=false->(∃ x ∈ l,x.i=j)\/∀ x ∈ l,∃ e ∈ o.after,Region.binds .any e=true/\e.on=x.i
theorem Yh {t:TypeId} {m:Nat} {kk:IntKind} {e:TypeId} (ht:rz C.P t=some (.i,e)) {id:Nat} {ρ:Env} (hm:ρ.get m=.mp id) (hB:id ∉ B) (mm:Nat):∀ (n:Nat) (l:List vM) (listed:Array Bool) (U:St) (kv:List AV × List AV),l.length=n ->
 (∀ x ∈ l,listed.getD x.i true=false)->Zk ops listed l->l.Pairwise (fun x y=>x.i ≠ y.i/\x.key ≠ y.key)->(∀ x ∈ l,acX C ops ρ t m kk listed x)->da B au U->y3 kk kv ->
 (∀ x ∈ l,.int kk x.key ∉ kv.1)->(∀ nB:Array Bool,nB.size=listed.size->(∀ j,nB.getD j true=false ↔ listed.getD j true=false/\¬ ∃ x ∈ l,x.i=j)->nj C mu ops (da B au) K Kp mm nB ρ (U.set id (.mp (p9 kk l kv).1 (p9 kk l kv).2))) ->
 nj C mu ops (da B au) K Kp (n+mm) listed ρ (U.set id (.mp kv.1 kv.2)):=by
 intro n
 induction n with
 | zero =>
   intro l listed U kv hl C1 wH hp cO hI Bo jC hK
   obtain rfl:l=[]:=List.eq_nil_of_length_eq_zero hl
   rw [df]
   exact hK listed rfl fun j=>by simp
 | succ n ih =>
   intro l listed U kv hl C1 wH hp cO hI Bo jC hK
   have IA:∀ x ∈ l,x.i ∈ Region.ready .any ops listed:=fun x hx=>by
    obtain ⟨o,v,h1,_,_,_,_,h6⟩:=cO x hx
    exact mem_ready.2 ⟨C1 x hx,o,h1,h6⟩
   rw [show n+1+mm=(n+mm)+1 by omega]
   refine ⟨fun h=>?_,fun j hj=>?_⟩
   . obtain ⟨x,l',rfl⟩:∃ x l',l=x::l':=by cases l with | nil=>simp at hl | cons x l'=>exact ⟨x,l',rfl⟩
     have:=IA x (by simp)
     rw [h] at this; cases this
   . obtain ⟨x,hx,rfl⟩:∃ x ∈ l,x.i=j:=by
      obtain ⟨h0,oj,ph,cm⟩:=mem_ready.1 hj
      rcases wH j oj ph h0 with h | h
      . exact h
      . exfalso
        obtain ⟨x,l',rfl⟩:∃ x l',l=x::l':=by cases l with | nil=>simp at hl | cons x l'=>exact ⟨x,l',rfl⟩
        obtain ⟨ed,he,hb,C6⟩:=h x (by simp)
        have k1:=cm ed he hb
        rw [C6] at k1
        have k2:=C1 x (by simp)
        rcases kO x.i listed.size with h' | h'
        . simp [h'] at k1 k2; rw [k2] at k1; cases k1
        . simp [yn h'] at k1
     obtain ⟨o,v,h1,h2,h3,h4,h5,h6⟩:=cO x hx
     obtain ⟨sk,sn,rfl⟩:=List.append_of_mem hx
     have hpa:=hp
     rw [List.pairwise_append] at hp
     obtain ⟨p1,p2,p3⟩:=hp
     rw [List.pairwise_cons] at p2
     have Nh:ml .i (.int kk x.key) kv.1 0=some none:=HR _ _ fun y hy=>by
      obtain ⟨n,rfl⟩:=Bo.2 y hy
      exact ⟨n,rfl,fun e=>jC x hx (by rw [<- e]; exact hy)⟩
     unfold lY
     rw [h1]
     dsimp only
     rw [h4,h2,h3]
     refine ⟨fun _=>?_,fun h=>by cases h⟩
     have hop:kn C (oV mu o) (.insert t (.tmp m) (.const (.int kk x.key)) v) ρ (U.set id (.mp kv.1 kv.2))=.jd (.aH []) id (.mp (ru kk x.key x.val kv).1 (ru kk x.key x.val kv).2):=by
      show rA C.P t (ρ.ev C (.tmp m)) (ρ.ev C (.const (.int kk x.key))) (ρ.ev C v) _=_
      rw [h5,show ρ.ev C (.tmp m)=.mp id from hm,show ρ.ev C (.const (.int kk x.key))=.int kk x.key from rfl]
      simp only [rA,ht,abG,Nh,ql,ru]
     rw [hop]
     refine ⟨.inr fun b hb=>?_,?_⟩
     . have cr:b ≠ id:=fun e=>hB (e ▸ hb)
       rw [set_set]
       simp only [St.set,if_neg cr]
       exact hI b hb
     . show nj C mu ops (da B au) K Kp (n+mm) (listed.setIfInBounds x.i true) ρ _
       rw [set_set]
       have aQ:x.i < listed.size:=by
        have h0:=C1 x hx
        rcases kO x.i listed.size with h | h
        . exact h
        . simp [yn h] at h0
       have WQ:(listed.setIfInBounds x.i true).getD x.i true=true:=by simp [aQ]
       have Eo:∀ y ∈ sk++sn,y ∈ sk++x::sn:=fun y hy=>by
        simp only [gu,cJ] at hy ⊢
        rcases hy with hy | hy
        . exact .inl hy
        . exact .inr (.inr hy)
       have cr:∀ y ∈ sk++sn,x.i ≠ y.i:=fun y hy=>by
        rcases gu.1 hy with hy | hy
        . exact (p3 y hy x (by simp)).1.symm
        . exact (p2.1 y hy).1
       refine ih (sk++sn) (listed.setIfInBounds x.i true) U (ru kk x.key x.val kv) ?_ ?_ ?_ ?_ ?_ hI (LC Bo) ?_ ?_
       . simp at hl ⊢; omega
       . intro y hy
         rw [getD_set_ne true (cr y hy)]
         exact C1 y (Eo y hy)
       . intro j oj ph h0
         have hjx:x.i ≠ j:=fun e=>by subst e; rw [WQ] at h0; cases h0
         rw [getD_set_ne true hjx] at h0
         rcases wH j oj ph h0 with ⟨y,hy,rfl⟩ | h
         . left
           refine ⟨y,?_,rfl⟩
           simp only [gu,cJ] at hy ⊢
           rcases hy with hy | rfl | hy
           . exact .inl hy
           . exact absurd rfl hjx
           . exact .inr hy
         . right
           exact fun y hy=>h y (Eo y hy)
       . rw [List.pairwise_append]
         exact ⟨p1,p2.2,fun y hy z hz=>p3 y hy z (by simp [hz])⟩
       . intro y hy
         obtain ⟨o',v',q1,q2,q3,q4,q5,q6⟩:=cO y (by simp only [gu,cJ] at hy ⊢; rcases hy with hy | hy; exact .inl hy; exact .inr (.inr hy))
         exact ⟨o',v',q1,q2,q3,q4,q5,fun ed he hb=>getD_set_true (q6 ed he hb)⟩
       . intro y hy oc
         rcases xQ _ _ _ oc with e | e
         . simp only [AV.int.injEq,true_and] at e
           rcases gu.1 hy with hy | hy
           . exact (p3 y hy x (by simp)).2 e
           . exact (p2.1 y hy).2 e.symm
         . exact jC y (by simp only [gu,cJ] at hy ⊢; rcases hy with hy | hy; exact .inl hy; exact .inr (.inr hy)) e
       . rw [<- zE sk x sn Bo (fun y hy=>(p3 y hy x (by simp)).2)]
         intro nB eU tC
         refine hK nB (by rw [eU]; simp) fun j=>?_
         rw [tC j]
         by_cases e:x.i=j
         . subst e
           rw [WQ]
           constructor
           . rintro ⟨h,_⟩; cases h
           . rintro ⟨_,h⟩; exact absurd ⟨x,by simp,rfl⟩ h
         . rw [getD_set_ne true e]
           refine and_congr_right fun _=>not_congr ?_
           constructor
           . rintro ⟨y,hy,rfl⟩; exact ⟨y,Eo y hy,rfl⟩
           . rintro ⟨y,hy,rfl⟩
             refine ⟨y,?_,rfl⟩
             simp only [gu,cJ] at hy ⊢
             rcases hy with hy | rfl | hy
             . exact .inl hy
             . exact absurd rfl e
             . exact .inr hy
def pk (ops:Array Oper):List (Bool × Nat)->Array Bool->Option (Array Bool)
 | [],listed=>some listed
 | (true,i)::r,listed=>cond ((Region.ready .any ops listed).contains i && Region.free .any ops listed i) (pk ops r (listed.setIfInBounds i true)) none
 | (false,i)::r,listed=>cond (Region.ready .any ops listed == [i] && !o7 ops i) (pk ops r (listed.setIfInBounds i true)) none
theorem ye {m:Nat} {rj:Array Bool} {K0:Env->St->Prop} (Ie:∀ ρ U,Dn ops rj->da B au U->K0 ρ U->nj C mu ops (da B au) K Kp m rj ρ U):∀ (dt:List (Bool × Nat)) (listed:Array Bool) (ρ:Env) (U:St),pk ops dt listed=some rj->Dn ops listed->da B au U->my C mu ops B au K0 Kp dt ρ U ->
 nj C mu ops (da B au) K Kp (dt.length+m) listed ρ U
 | [],listed,ρ,U,hp,hD,hI,h=>by
   simp only [pk,ji] at hp
   subst hp
   simpa using Ie ρ U hD hI h
 | (true,i)::r,listed,ρ,U,hp,hD,hI,h=>by
   simp only [pk] at hp
   cases hc:((Region.ready .any ops listed).contains i && Region.free .any ops listed i) with
   | false=>rw [hc] at hp; cases hp
   | true =>
     rw [hc] at hp
     simp only [bS] at hc
     obtain ⟨o,v,ho,fV,hr⟩:=h
     have:=CE ho (r.length+m) listed ρ U (Region.free_spec ho hc.2) (by simpa using hc.1) hD fV hI (ye Ie r _ _ U hp (hD.set (by simpa using hc.1)) hI hr)
     rw [show ((true,i)::r).length+m=r.length+m+1 by simp; omega]
     exact this
 | (false,i)::r,listed,ρ,U,hp,hD,hI,h=>by
   simp only [pk] at hp
   cases hc:(Region.ready .any ops listed == [i] && !o7 ops i) with
   | false=>rw [hc] at hp; cases hp
   | true =>
     rw [hc] at hp
     simp only [bS,beq_iff_eq,Bool.not_eq_true'] at hc
     obtain ⟨hc,PK⟩:=hc
     rw [show ((false,i)::r).length+m=r.length+m+1 by simp; omega]
     refine ⟨fun h0=>(by rw [hc] at h0; cases h0),fun j hj=>?_⟩
     have Ft:=hj
     rw [hc,jX] at hj
     subst hj
     exact DM (.inr hI) (fun ez ad CV hr=>ye Ie r _ ez ad hp (hD.set Ft) (CV.resolve_left (by rw [PK]; simp)) hr) h
structure oP where
 t:TypeId
 m:Nat
 kk:IntKind
 l:List Nat
def Ns (I:oP) (o:Oper):Option (Int × Operand):=match o.op,o.dst,o.guard with
 | .insert t (.tmp m) (.const (.int kk a)) v,none,none=>cond (Nat.beq t I.t && (Nat.beq m I.m && decide (kk=I.kk))) (some (a,v)) none
 | _,_,_=>none
def ny (ops:Array Oper) (I:oP) (i:Nat):Option (Int × Operand):=(ops[i]?).bind (Ns I)
def GQ (listed:Array Bool) (o:Oper):Bool:=o.after.toList.all fun e=>!Region.binds .any e || listed.getD e.on false
def Ec (ops:Array Oper) (I:oP) (listed:Array Bool):Bool:=(List.range ops.size).all fun j=>listed.getD j true || (I.l.contains j || (match ops[j]? with
 | some o=>I.l.all fun i=>o.after.toList.any fun e=>Region.binds .any e && Nat.beq e.on i
 | none=>true))
def qS (ops:Array Oper) (I:oP) (listed:Array Bool):Bool :=
 Ec ops I listed && (I.l.all (fun i=>!listed.getD i true) && (Nat.beq listed.size ops.size && (I.l.all (fun i=>Nat.blt i ops.size && ((ny ops I i).isSome && (match ops[i]? with | some o=>GQ listed o | none=>false)))
  && (decide I.l.Nodup && decide (I.l.map fun i=>((ny ops I i).map (·.1)).getD 0).Nodup))))
def gS (listed:Array Bool) (l:List Nat):Array Bool:=l.foldl (fun a i=>a.setIfInBounds i true) listed
theorem wg:∀ (l:List Nat) (a:Array Bool),(gS a l).size=a.size
 | [],_=>rfl
 | i::l,a=>by
   show (gS (a.setIfInBounds i true) l).size=_
   rw [wg l]; simp
theorem yr:∀ (l:List Nat) (a:Array Bool) (j:Nat),(gS a l).getD j true=false ↔ a.getD j true=false/\j ∉ l
 | [],_,_=>by simp [gS]
 | i::l,a,j=>by
   show (gS (a.setIfInBounds i true) l).getD j true=false ↔ _
   rw [yr l]
   by_cases e:i=j
   . subst e
     have:(a.setIfInBounds i true).getD i true=true:=by
      by_cases h:i < a.size
      . simp [h]
      . simp [yn (Nat.le_of_not_lt h)]
     rw [this]; simp
   . rw [getD_set_ne true e]; simp [Ne.symm e]
def oL (C:cS) (ops:Array Oper) (ρ:Env) (I:oP):List vM:=I.l.filterMap fun i=>(ny ops I i).map fun p=>⟨i,p.1,ρ.ev C p.2⟩
def Nr (C:cS) (ops:Array Oper) (B:List Nat) (I:oP) (K:Env->St->Prop) (ρ:Env) (U:St):Prop :=
 ∃ id,ρ.get I.m=.mp id/\U.mp id=some ([],[])/\id ∉ B/\K ρ (U.set id (.mp (p9 I.kk (oL C ops ρ I) ([],[])).1 (p9 I.kk (oL C ops ρ I) ([],[])).2))
theorem Nt {I:oP} {o:Oper} {a:Int} {v:Operand} (h:Ns I o=some (a,v)):o.op=.insert I.t (.tmp I.m) (.const (.int I.kk a)) v/\o.dst=none/\o.guard=none:=by
 unfold Ns at h
 split at h
 . rename_i t m kk a' v' h1 h2 h3
   cases hc:(Nat.beq t I.t && (Nat.beq m I.m && decide (kk=I.kk))) with
   | false=>rw [hc] at h; cases h
   | true =>
     rw [hc] at h
     simp only [bS,ee] at hc
     obtain ⟨e1,e2,e3⟩:=hc
     have e1:=fp e1
     have e2:=fp e2
     simp only [cond_true,ji,gL] at h
     obtain ⟨rfl,rfl⟩:=h
     exact ⟨by rw [h1,e1,e2,e3],h2,h3⟩
 . cases h
theorem KM {U:St} {id:Nat} {kv:List AV × List AV} (h:U.mp id=some kv):U.set id (.mp kv.1 kv.2)=U:=by
 have:=St.qe.1 h
 simp only [St.set]
 cases U with
 | mk live nb =>
   simp only [St.mk.injEq,and_true]
   funext q
   split
   . rename_i e; subst e; exact this.symm
   . rfl
theorem Dn.gS {I:oP} {listed:Array Bool} (hD:Dn ops listed) (hc:qS ops I listed=true):Dn ops (Go.Rip.gS listed I.l):=by
 simp only [qS,bS,fe] at hc
 obtain ⟨h0,h1,h2,h3,_⟩:=hc
 have h2:=fp h2
 have mono:∀ (l:List Nat) (a:Array Bool) (j:Nat),a.getD j false=true->(Go.Rip.gS a l).getD j false=true:=fun l=>by
  induction l with
  | nil=>exact fun a j h=>h
  | cons i l ih=>exact fun a j h=>ih _ j (getD_set_true h)
 intro m o ho hl e he hb
 by_cases hm:m ∈ I.l
 . have:=(h3 m hm).2.2
   rw [ho] at this
   simp only [GQ,fe,jW] at this
   have:=this e (by simpa using he)
   rw [hb] at this
   exact mono _ _ _ (by simpa using this)
 . have aQ:m < listed.size:=by rw [h2]; exact (lN.1 ho).1
   have hlm:listed.getD m false=true:=by
    cases hh:listed.getD m true with
    | false =>
      have k:=(yr I.l listed m).2 ⟨hh,hm⟩
      have hs:m < (Go.Rip.gS listed I.l).size:=by rw [wg]; exact aQ
      simp [hs] at k hl
      rw [k] at hl; cases hl
    | true=>simp [aQ] at hh ⊢; exact hh
   exact mono _ _ _ (hD m o ho hlm e he hb)
theorem P0 {I:oP} {listed:Array Bool} {e:TypeId} {mm:Nat} {K1:Env->St->Prop} (ht:rz C.P I.t=some (.i,e)) (hc:qS ops I listed=true)
 (hK1:∀ ρ U,Dn ops (gS listed I.l)->da B au U->K1 ρ U->nj C mu ops (da B au) K Kp mm (gS listed I.l) ρ U):∀ ρ U,Dn ops listed->da B au U->Nr C ops B I K1 ρ U->nj C mu ops (da B au) K Kp (I.l.length+mm) listed ρ U:=by
 rintro ρ U hD hI ⟨id,hm,Is,hB,hK⟩
 have hDs:=hD.gS hc
 simp only [qS,bS,fe,ee,Bool.not_eq_true'] at hc
 obtain ⟨h0,h1,h2,h3,h4,h5⟩:=hc
 have h2:=fp h2
 have Nn:∀ i ∈ I.l,∃ a v,ny ops I i=some (a,v):=fun i hi=>by
  have:=(h3 i hi).2.1
  obtain ⟨p,hp⟩:=Option.isSome_iff_exists.1 this
  exact ⟨p.1,p.2,hp⟩
 have oc:∀ x,x ∈ oL C ops ρ I ↔ ∃ i ∈ I.l,∃ a v,ny ops I i=some (a,v)/\x=⟨i,a,ρ.ev C v⟩:=fun x=>by
  simp only [oL,List.mem_filterMap,pV]
  constructor
  . rintro ⟨i,hi,⟨a,v⟩,hp,rfl⟩; exact ⟨i,hi,a,v,hp,rfl⟩
  . rintro ⟨i,hi,a,v,hp,rfl⟩; exact ⟨i,hi,(a,v),hp,rfl⟩
 have tB:∀ j,(∃ x ∈ oL C ops ρ I,x.i=j) ↔ j ∈ I.l:=fun j=>by
  constructor
  . rintro ⟨x,hx,rfl⟩
    obtain ⟨i,hi,a,v,hp,rfl⟩:=(oc _).1 hx
    exact hi
  . intro hj
    obtain ⟨a,v,hp⟩:=Nn j hj
    exact ⟨_,(oc _).2 ⟨j,hj,a,v,hp,rfl⟩,rfl⟩
 rw [<- KM Is]
 have hlen:(oL C ops ρ I).length=I.l.length:=by
  have:∀ l:List Nat,(∀ i ∈ l,∃ a v,ny ops I i=some (a,v))->(l.filterMap fun i=>(ny ops I i).map fun p=>(⟨i,p.1,ρ.ev C p.2⟩:vM)).length=l.length:=fun l=>by
   induction l with
   | nil=>intro _; rfl
   | cons i l ih =>
     intro h
     obtain ⟨a,v,hp⟩:=h i (by simp)
     simp only [List.filterMap_cons,hp,Option.map_some,fm,ih fun j hj=>h j (by simp [hj])]
  exact this _ Nn
 have hpw:(oL C ops ρ I).Pairwise (fun x y=>x.i ≠ y.i/\x.key ≠ y.key):=by
  have:∀ l:List Nat,(∀ i ∈ l,∃ a v,ny ops I i=some (a,v))->l.Nodup->(l.map fun i=>((ny ops I i).map (·.1)).getD 0).Nodup->(l.filterMap fun i=>(ny ops I i).map fun p=>(⟨i,p.1,ρ.ev C p.2⟩:vM)).Pairwise (fun x y=>x.i ≠ y.i/\x.key ≠ y.key):=fun l=>by
   induction l with
   | nil=>intro _ _ _; exact List.Pairwise.nil
   | cons i l ih =>
     intro h hn hk
     obtain ⟨a,v,hp⟩:=h i (by simp)
     rw [List.nodup_cons] at hn
     rw [eh,List.nodup_cons] at hk
     simp only [List.filterMap_cons,hp,Option.map_some]
     refine List.Pairwise.cons (fun y hy=>?_) (ih (fun j hj=>h j (by simp [hj])) hn.2 hk.2)
     rw [List.mem_filterMap] at hy
     obtain ⟨j,hj,hjy⟩:=hy
     rw [pV] at hjy
     obtain ⟨p,wO,rfl⟩:=hjy
     refine ⟨fun e=>hn.1 (by have e:i=j:=e; rw [e]; exact hj),fun e=>hk.1 ?_⟩
     have e:a=p.1:=e
     refine List.mem_map.2 ⟨j,hj,?_⟩
     rw [wO,hp]; simp [e]
  exact this _ Nn h4 h5
 refine Yh (kk:=I.kk) ht hm hB mm _ (oL C ops ρ I) listed U ([],[]) hlen ?_ ?_ hpw ?_ hI ⟨rfl,fun y hy=>by cases hy⟩ (fun x hx=>by simp) ?_
 . intro x hx
   exact h1 x.i ((tB x.i).1 ⟨x,hx,rfl⟩)
 . intro j o ho hj
   have aQ:j < ops.size:=(lN.1 ho).1
   simp only [Ec,fe,List.mem_range,jW] at h0
   have:=h0 j aQ
   rw [ho,hj] at this
   rcases this with h | h | h
   . cases h
   . left; exact (tB j).2 (by simpa using h)
   . right
     intro x hx
     simp only [fe] at h
     have:=h x.i ((tB x.i).1 ⟨x,hx,rfl⟩)
     rw [List.any_eq_true] at this
     obtain ⟨ed,he,hb⟩:=this
     simp only [bS] at hb
     exact ⟨ed,by simpa using he,hb.1,fp hb.2⟩
 . intro x hx
   obtain ⟨i,hi,a,v,hp,rfl⟩:=(oc _).1 hx
   unfold ny at hp
   rw [Option.bind_eq_some_iff] at hp
   obtain ⟨o,ho,hp⟩:=hp
   obtain ⟨q1,q2,q3⟩:=Nt hp
   refine ⟨o,v,ho,q1,q2,q3,rfl,fun ed he hb=>?_⟩
   have:=(h3 i hi).2.2
   rw [ho] at this
   simp only [GQ,fe,jW] at this
   have:=this ed (by simpa using he)
   rw [hb] at this
   simpa using this
 . intro nB eU tC
   have e:nB=gS listed I.l:=by
    apply Array.ext (by rw [wg,eU])
    intro j ur qN
    have k1:=tC j
    have k2:=yr I.l listed j
    rw [tB] at k1
    have k3:nB.getD j true=false ↔ (gS listed I.l).getD j true=false:=k1.trans k2.symm
    have e1:nB.getD j true=nB[j]:=by simp [ur]
    have e2:(gS listed I.l).getD j true=(gS listed I.l)[j]:=by simp [qN]
    rw [e1,e2] at k3
    cases h1:nB[j] <;> cases h2:(gS listed I.l)[j] <;> simp_all
   rw [e]
   refine hK1 ρ _ hDs ?_ hK
   intro b hb
   have cr:b ≠ id:=fun e=>hB (e ▸ hb)
   simp only [St.set,if_neg cr]
   exact hI b hb
def vA (P:Program) (ops:Array Oper) (dt:List (Bool × Nat)) (I:oP) (post:List (Bool × Nat)):Bool :=
 (match pk ops dt (Array.replicate ops.size false) with | some l=>qS ops I l && ja ops post (gS l I.l) | none=>false) && (Nat.beq (dt.length+(I.l.length+post.length)) ops.size && (match rz P I.t with | some (.i,_)=>true | _=>false))
theorem bH.QR {nt id:Nat} {ro:Ro} {Q:Ex->Env->St->Prop} {ρ:Env} {U:St} (dt:List (Bool × Nat)) (I:oP) (post:List (Bool × Nat)) (hm:C.P.follows .mixedOrders=true) (cO:lW nt ops=true) (hp:vA C.P ops dt I post=true)
 (h:my C mu ops B U (Nr C ops B I (my C mu ops B U (KQ Q) (yM Q) post)) (yM Q) dt ρ U):bH C nt ro (.region id ops true) Q ρ U:=by
 simp only [vA,bS] at hp
 obtain ⟨h1,h2,h3⟩:=hp
 have h2:=fp h2
 split at h3
 . rename_i e ht
   split at h1
   . rename_i l hl
     rw [bS] at h1
     refine bH.z8 mu (da B U) hm cO ?_
     have:=ye (P0 ht h1.1 (fun ez ad hD' CV hk=>s0 post _ ez ad h1.2 hD' (.inr CV) hk)) dt _ ρ U hl (Dn.none _ _) (fun _ _=>rfl) h
     rw [h2] at this
     exact this
   . cases h1
 . cases h3
end
end Go.Rip
namespace Go.Rip
open Go.RowKit
structure Row where
 d:Nat
 l:Nat
 a:Nat
def MB:Option Nat->Nat
 | some d=>2 ^ d
 | none=>0
def qm:List Nat->Nat
 | []=>0
 | d::l=>Nat.lor (2 ^ d) (qm l)
theorem er (k:Nat):∀ l:List Nat,(qm l).testBit k=true ↔ k ∈ l
 | []=>by simp [qm]
 | d::l=>by
   show (2 ^ d ||| qm l).testBit k=true ↔ _
   rw [Nat.testBit_or,Nat.testBit_two_pow,jW,er k l]
   simp [eq_comm]
theorem ku (k:Nat) (o:Option Nat):(MB o).testBit k=true ↔ o=some k:=by
 cases o with
 | none=>simp [MB]
 | some d=>simp [MB,Nat.testBit_two_pow]
def y5 (o:Oper):List Nat:=(o.after.toList.filter fun e=>Region.binds .any e).map (·.on)
def rowOf (ops:Array Oper) (o:Oper):Row:=⟨MB o.dst,qm (o.looksAt ops),qm (y5 o)⟩
def ot (a b:Nat):Bool:=Nat.beq (Nat.land a b) a
def MN (a b:Nat):Bool:=Nat.beq (Nat.land a b) 0
theorem tb {a b:Nat} (h:ot a b=true) (k:Nat) (hk:a.testBit k=true):b.testBit k=true:=by
 have e:a &&& b=a:=fp h
 have:=congrArg (fun n=>n.testBit k) e
 simp only [Nat.testBit_and,hk,Bool.true_and] at this
 exact this
theorem qJ {a b:Nat} (h:MN a b=true) (k:Nat) (hk:a.testBit k=true):¬ b.testBit k=true:=by
 have e:a &&& b=0:=fp h
 have:=congrArg (fun n=>n.testBit k) e
 simp only [Nat.testBit_and,hk,Bool.true_and,Nat.zero_testBit] at this
 simp [this]
def hasB (m i:Nat):Bool:=Nat.beq (Nat.land (Nat.shiftRight m i) 1) 1
theorem oK (m i:Nat):hasB m i=m.testBit i:=by
 have e:Nat.land (Nat.shiftRight m i) 1=1 &&& (m >>> i):=Nat.and_comm _ _
 unfold hasB Nat.testBit
 rw [e]
 cases h:Nat.beq (1 &&& m >>> i) 1 with
 | true=>have:=fp h; rw [this]; rfl
 | false =>
   have h1:(1 &&& m >>> i) ≠ 1:=fun e=>by rw [e] at h; simp at h
   have h2:(1 &&& m >>> i)=0:=by
    have:1 &&& (m >>> i)=(m >>> i) % 2:=Nat.one_and_eq_mod_two _
    omega
   rw [h2]; rfl
def G5 (i:Nat) (x y:Row):Bool:=hasB y.a i || (MN x.d y.l && (MN x.d y.d && MN y.d x.l))
def BU (done i:Nat) (x:Row):List Row->Nat->Bool
 | [],_=>true
 | y::r,j=>(Nat.beq j i || (hasB done j || G5 i x y)) && BU done i x r (j+1)
def BS (done i:Nat):List Row->Nat->Bool
 | [],_=>true
 | y::r,j=>(Nat.beq j i || (hasB done j || !ot y.a done)) && BS done i r (j+1)
def yg (rows:List Row) (n:Nat):List (Bool × Nat)->Nat->Bool
 | [],done=>Nat.beq done (2 ^ n - 1)
 | (true,i)::r,done=>match rows[i]? with
   | some x=>!hasB done i && (ot x.a done && (BU done i x rows 0 && yg rows n r (Nat.lor done (2 ^ i))))
   | none=>false
 | (false,i)::r,done=>match rows[i]? with
   | some x=>!hasB done i && (ot x.a done && (BS done i rows 0 && yg rows n r (Nat.lor done (2 ^ i))))
   | none=>false
theorem y7 {done i:Nat} {x:Row}:∀ {l:List Row} {j:Nat},BU done i x l j=true->∀ k y,l[k]?=some y->(j+k=i\/done.testBit (j+k)=true\/G5 i x y=true)
 | [],_,_,k,y,hy=>by simp at hy
 | z::r,j,h,k,y,hy=>by
   simp only [BU,bS,jW,oK] at h
   cases k with
   | zero =>
     simp at hy; subst hy
     rcases h.1 with h | h | h
     . exact .inl (fp h)
     . exact .inr (.inl h)
     . exact .inr (.inr h)
   | succ k =>
     have:=y7 h.2 k y (by simpa using hy)
     rw [show j+(k+1)=j+1+k by omega]; exact this
theorem y6 {done i:Nat}:∀ {l:List Row} {j:Nat},BS done i l j=true->∀ k y,l[k]?=some y->(j+k=i\/done.testBit (j+k)=true\/ot y.a done=false)
 | [],_,_,k,y,hy=>by simp at hy
 | z::r,j,h,k,y,hy=>by
   simp only [BS,bS,jW,oK,Bool.not_eq_true'] at h
   cases k with
   | zero =>
     simp at hy; subst hy
     rcases h.1 with h | h | h
     . exact .inl (fp h)
     . exact .inr (.inl h)
     . exact .inr (.inr h)
   | succ k =>
     have:=y6 h.2 k y (by simpa using hy)
     rw [show j+(k+1)=j+1+k by omega]; exact this
def iV (n:Nat) (listed:Array Bool) (done:Nat):Prop:=listed.size=n/\∀ k,k < n->listed[k]?=some (done.testBit k)
section
variable {ops:Array Oper} {listed:Array Bool} {done:Nat}
theorem iV.get (h:iV ops.size listed done) {k:Nat} (hk:k < ops.size) (d:Bool):listed.getD k d=done.testBit k:=by
 have:=h.2 k hk
 simp [this]
theorem iV.out (h:iV ops.size listed done) {k:Nat} (hk:¬ k < ops.size) (d:Bool):listed.getD k d=d:=by
 have:listed[k]?=none:=yn (by rw [h.1]; omega)
 simp [this]
theorem iV.set (h:iV ops.size listed done) (i:Nat):iV ops.size (listed.setIfInBounds i true) (Nat.lor done (2 ^ i)):=by
 refine ⟨by simp [h.1],fun k hk=>?_⟩
 show _=some ((done ||| 2 ^ i).testBit k)
 rw [Nat.testBit_or,Nat.testBit_two_pow]
 by_cases e:i=k
 . subst e
   have:i < listed.size:=by rw [h.1]; exact hk
   simp [Array.getElem?_setIfInBounds,this]
 . rw [Array.getElem?_setIfInBounds_ne e,h.2 k hk]
   simp [e]
theorem yp {i:Nat} {x:Row} (h:(ops.toList.map (rowOf ops))[i]?=some x):∃ o,ops[i]?=some o/\x=rowOf ops o:=by
 rw [nE,pV] at h
 obtain ⟨o,ho,e⟩:=h
 exact ⟨o,by simpa using ho,e.symm⟩
theorem tX {o:Oper} {k:Nat}:k ∈ y5 o ↔ ∃ e ∈ o.after,Region.binds .any e=true/\e.on=k:=by
 simp [y5,and_assoc]
theorem qW (h:iV ops.size listed done) {j:Nat} {o:Oper} (ho:ops[j]?=some o):j ∈ Region.ready .any ops listed ↔ done.testBit j=false/\∀ k,k ∈ y5 o->k < ops.size/\done.testBit k=true:=by
 have hj:j < ops.size:=(lN.1 ho).1
 rw [mem_ready,h.get hj]
 refine and_congr_right fun _=>⟨?_,?_⟩
 . rintro ⟨o',WE,cm⟩ k hk
   rw [ho] at WE; cases WE
   obtain ⟨e,he,hb,rfl⟩:=tX.1 hk
   have:=cm e he hb
   by_cases hk:e.on < ops.size
   . rw [h.get hk] at this; exact ⟨hk,this⟩
   . rw [h.out hk] at this; cases this
 . intro cm
   refine ⟨o,ho,fun e he hb=>?_⟩
   obtain ⟨hk,ht⟩:=cm e.on (tX.2 ⟨e,he,hb,rfl⟩)
   rw [h.get hk]; exact ht
theorem GK {i:Nat} {o:Oper} (hm:iV ops.size listed done) (ho:ops[i]?=some o) (h3:BU done i (rowOf ops o) (ops.toList.map (rowOf ops)) 0=true):Region.free .any ops listed i=true:=by
 simp only [Region.free,ho,fe,List.mem_range,jW]
 intro j hj
 obtain ⟨oj,ph⟩:∃ oj,ops[j]?=some oj:=⟨ops[j],by simp [hj]⟩
 rw [ph]
 have hy:(ops.toList.map (rowOf ops))[j]?=some (rowOf ops oj):=by
  rw [nE]; simp [ph]
 rcases y7 h3 j _ hy with e | e | e
 . left; left; simp at e; simp [e]
 . left; right; rw [hm.get hj]; simpa using e
 . right
   simp only [G5,jW,bS,oK] at e
   show ((oj.after.any fun e=>Region.binds .any e && e.on == i) || o.apart ops oj)=true
   rw [jW]
   rcases e with e | ⟨e1,e2,e3⟩
   . left
     have:=(er i _).1 e
     obtain ⟨ed,he,hb,C6⟩:=tX.1 this
     rw [Array.any_eq_true']
     exact ⟨ed,he,by simp [hb,C6]⟩
   . right
     have k1:∀ d,o.dst=some d->d ∉ oj.looksAt ops:=fun d hd hm=>qJ e1 d ((ku d _).2 hd) ((er d _).2 hm)
     have k2:∀ d,o.dst=some d->oj.dst ≠ some d:=fun d hd hm=>qJ e2 d ((ku d _).2 hd) ((ku d _).2 hm)
     have k3:∀ d,oj.dst=some d->d ∉ o.looksAt ops:=fun d hd hm=>qJ e3 d ((ku d _).2 hd) ((er d _).2 hm)
     unfold Oper.apart
     cases Bj:o.dst <;> cases rp:oj.dst <;> simp only [bS,Bool.not_eq_true',bne_iff_ne,ne_eq,Bool.and_self,and_self,true_and,and_true]
     . rename_i d; simpa using k3 d rp
     . rename_i d; exact ⟨by simpa using k1 d Bj,by simp⟩
     . rename_i d d'
       refine ⟨⟨by simpa using k1 d Bj,fun e=>k2 d Bj (by rw [rp]; exact e)⟩,by simpa using k3 d' rp⟩
theorem z7 {i:Nat} {o:Oper} (hm:iV ops.size listed done) (ho:ops[i]?=some o) (h1:done.testBit i=false) (sub:∀ k,k ∈ y5 o->k < ops.size/\done.testBit k=true) (h3:BS done i (ops.toList.map (rowOf ops)) 0=true):Region.ready .any ops listed=[i]:=by
 have key:∀ j,j ∈ Region.ready .any ops listed->j=i:=fun j hj=>by
  obtain ⟨h0,oj,ph,_⟩:=mem_ready.1 hj
  have hr:=(qW hm ph).1 hj
  have Ln:j < ops.size:=(lN.1 ph).1
  have hy:(ops.toList.map (rowOf ops))[j]?=some (rowOf ops oj):=by
   rw [nE]; simp [ph]
  rcases y6 h3 j _ hy with e | e | e
  . simpa using e
  . rw [df] at e; rw [hr.1] at e; cases e
  . exfalso
    have:ot (rowOf ops oj).a done=true:=by
     unfold ot
     have e2:(rowOf ops oj).a &&& done=(rowOf ops oj).a:=by
      apply Nat.eq_of_testBit_eq
      intro k
      rw [Nat.testBit_and]
      cases hk:(rowOf ops oj).a.testBit k with
      | false=>rfl
      | true=>rw [(hr.2 k ((er k _).1 hk)).2]; rfl
     show Nat.beq ((rowOf ops oj).a &&& done) _=true
     rw [e2]; simp
    rw [this] at e; cases e
 have oc:=(qW hm ho).2 ⟨h1,sub⟩
 have hnd:(Region.ready .any ops listed).Nodup:=(List.Pairwise.filter _ List.nodup_range)
 match hl:Region.ready .any ops listed with
 | []=>rw [hl] at oc; cases oc
 | [x]=>rw [hl] at key; rw [key x (by simp)]
 | x::y::zs =>
   rw [hl] at key hnd
   have e1:=key x (by simp)
   have e2:=key y (by simp)
   subst e1; subst e2
   simp at hnd
theorem yh:∀ (dt:List (Bool × Nat)) (listed:Array Bool) (done:Nat),iV ops.size listed done->done < 2 ^ ops.size->yg (ops.toList.map (rowOf ops)) ops.size dt done=true->ja ops dt listed=true
 | [],listed,done,hm,aQ,h=>by
   have e:done=2 ^ ops.size - 1:=fp h
   simp only [ja,List.isEmpty_iff]
   rw [List.eq_nil_iff_forall_not_mem]
   intro j hj
   obtain ⟨h0,o,ho,_⟩:=mem_ready.1 hj
   have Ln:j < ops.size:=(lN.1 ho).1
   rw [hm.get Ln,e,Nat.testBit_two_pow_sub_one] at h0
   simp [Ln] at h0
 | (true,i)::r,listed,done,hm,aQ,h=>by
   simp only [yg] at h
   split at h
   . rename_i x hx
     obtain ⟨o,ho,rfl⟩:=yp hx
     simp only [bS,Bool.not_eq_true',oK] at h
     obtain ⟨h1,h2,h3,h4⟩:=h
     have hi:i < ops.size:=(lN.1 ho).1
     have tj:Nat.lor done (2 ^ i) < 2 ^ ops.size:=Nat.or_lt_two_pow aQ (Nat.pow_lt_pow_right (by omega) hi)
     have sub:∀ k,k ∈ y5 o->k < ops.size/\done.testBit k=true:=fun k hk=>by
      have:=tb h2 k ((er k _).2 hk)
      refine ⟨?_,this⟩
      rcases kO k ops.size with h | h
      . exact h
      . rw [Nat.testBit_lt_two_pow (Nat.lt_of_lt_of_le aQ (Nat.pow_le_pow_right (by omega) h))] at this; cases this
     simp only [ja,bS]
     refine ⟨⟨?_,?_⟩,yh r _ _ (hm.set i) tj h4⟩
     . simp only [List.contains_iff_mem]
       exact (qW hm ho).2 ⟨h1,sub⟩
     . simp only [Region.free,ho,fe,List.mem_range,jW]
       intro j hj
       obtain ⟨oj,ph⟩:∃ oj,ops[j]?=some oj:=⟨ops[j],by simp [hj]⟩
       rw [ph]
       have hy:(ops.toList.map (rowOf ops))[j]?=some (rowOf ops oj):=by
        rw [nE]; simp [ph]
       rcases y7 h3 j _ hy with e | e | e
       . left; left; simp at e; simp [e]
       . left; right; rw [hm.get hj]; simpa using e
       . right
         simp only [G5,jW,bS,oK] at e
         show ((oj.after.any fun e=>Region.binds .any e && e.on == i) || o.apart ops oj)=true
         rw [jW]
         rcases e with e | ⟨e1,e2,e3⟩
         . left
           have:=(er i _).1 e
           obtain ⟨ed,he,hb,C6⟩:=tX.1 this
           rw [Array.any_eq_true']
           exact ⟨ed,he,by simp [hb,C6]⟩
         . right
           have k1:∀ d,o.dst=some d->d ∉ oj.looksAt ops:=fun d hd hm=>qJ e1 d ((ku d _).2 hd) ((er d _).2 hm)
           have k2:∀ d,o.dst=some d->oj.dst ≠ some d:=fun d hd hm=>qJ e2 d ((ku d _).2 hd) ((ku d _).2 hm)
           have k3:∀ d,oj.dst=some d->d ∉ o.looksAt ops:=fun d hd hm=>qJ e3 d ((ku d _).2 hd) ((er d _).2 hm)
           unfold Oper.apart
           cases Bj:o.dst <;> cases rp:oj.dst <;> simp only [bS,Bool.not_eq_true',bne_iff_ne,ne_eq,Bool.and_self,and_self,true_and,and_true]
           . rename_i d; simpa using k3 d rp
           . rename_i d; exact ⟨by simpa using k1 d Bj,by simp⟩
           . rename_i d d'
             refine ⟨⟨by simpa using k1 d Bj,fun e=>k2 d Bj (by rw [rp]; exact e)⟩,by simpa using k3 d' rp⟩
   . cases h
 | (false,i)::r,listed,done,hm,aQ,h=>by
   simp only [yg] at h
   split at h
   . rename_i x hx
     obtain ⟨o,ho,rfl⟩:=yp hx
     simp only [bS,Bool.not_eq_true',oK] at h
     obtain ⟨h1,h2,h3,h4⟩:=h
     have hi:i < ops.size:=(lN.1 ho).1
     have tj:Nat.lor done (2 ^ i) < 2 ^ ops.size:=Nat.or_lt_two_pow aQ (Nat.pow_lt_pow_right (by omega) hi)
     have sub:∀ k,k ∈ y5 o->k < ops.size/\done.testBit k=true:=fun k hk=>by
      have:=tb h2 k ((er k _).2 hk)
      refine ⟨?_,this⟩
      rcases kO k ops.size with h | h
      . exact h
      . rw [Nat.testBit_lt_two_pow (Nat.lt_of_lt_of_le aQ (Nat.pow_le_pow_right (by omega) h))] at this; cases this
     simp only [ja,bS,beq_iff_eq]
     refine ⟨?_,yh r _ _ (hm.set i) tj h4⟩
     have key:∀ j,j ∈ Region.ready .any ops listed->j=i:=fun j hj=>by
      obtain ⟨h0,oj,ph,_⟩:=mem_ready.1 hj
      have hr:=(qW hm ph).1 hj
      have Ln:j < ops.size:=(lN.1 ph).1
      have hy:(ops.toList.map (rowOf ops))[j]?=some (rowOf ops oj):=by
       rw [nE]; simp [ph]
      rcases y6 h3 j _ hy with e | e | e
      . simpa using e
      . rw [df] at e; rw [hr.1] at e; cases e
      . exfalso
        have:ot (rowOf ops oj).a done=true:=by
         unfold ot
         have e2:(rowOf ops oj).a &&& done=(rowOf ops oj).a:=by
          apply Nat.eq_of_testBit_eq
          intro k
          rw [Nat.testBit_and]
          cases hk:(rowOf ops oj).a.testBit k with
          | false=>rfl
          | true=>rw [(hr.2 k ((er k _).1 hk)).2]; rfl
         show Nat.beq ((rowOf ops oj).a &&& done) _=true
         rw [e2]; simp
        rw [this] at e; cases e
     have oc:=(qW hm ho).2 ⟨h1,sub⟩
     have hnd:(Region.ready .any ops listed).Nodup:=(List.Pairwise.filter _ List.nodup_range)
     match hl:Region.ready .any ops listed with
     | []=>rw [hl] at oc; cases oc
     | [x]=>rw [hl] at key; rw [key x (by simp)]
     | x::y::zs =>
       rw [hl] at key hnd
       have e1:=key x (by simp)
       have e2:=key y (by simp)
       subst e1; subst e2
       simp at hnd
   . cases h
end
def DG:List Row->List Row->Bool
 | [],[]=>true
 | x::xs,y::ys=>Nat.beq x.d y.d && (Nat.beq x.l y.l && (Nat.beq x.a y.a && DG xs ys))
 | _,_=>false
theorem Cn:∀ {a b:List Row},DG a b=true->a=b
 | [],[],_=>rfl
 | x::xs,y::ys,h=>by
   simp only [DG,bS] at h
   obtain ⟨h1,h2,h3,h4⟩:=h
   obtain ⟨a,b,c⟩:=x
   obtain ⟨a',b',c'⟩:=y
   have e1:a=a':=fp h1
   have e2:b=b':=fp h2
   have e3:c=c':=fp h3
   rw [e1,e2,e3,Cn h4]
 | [],_::_,h=>by cases h
 | _::_,[],h=>by cases h
structure Pl where
 steps:List (Bool × Nat)
 rows:List Row
def Jm (ops:Array Oper) (p:Pl):Bool:=DG (ops.toList.map (rowOf ops)) p.rows && (yg p.rows ops.size p.steps 0 && Nat.beq p.steps.length ops.size)
theorem EE {ops:Array Oper} {p:Pl} (h:Jm ops p=true):(ja ops p.steps (Array.replicate ops.size false) && (p.steps.length == ops.size))=true:=by
 simp only [Jm,bS] at h
 obtain ⟨h1,h2,h3⟩:=h
 rw [<- Cn h1] at h2
 simp only [bS,beq_iff_eq]
 refine ⟨yh _ _ 0 ⟨by simp,fun k hk=>by simp [hk]⟩ (Nat.two_pow_pos _) h2,fp h3⟩
def qV (ops:Array Oper) (rows:List Row):List (Bool × Nat)->Nat->Option Nat
 | [],done=>some done
 | (true,i)::r,done=>match rows[i]? with
   | some x=>cond (!hasB done i && (ot x.a done && BU done i x rows 0)) (qV ops rows r (Nat.lor done (2 ^ i))) none
   | none=>none
 | (false,i)::r,done=>match rows[i]? with
   | some x=>cond (!hasB done i && (ot x.a done && (BS done i rows 0 && !o7 ops i))) (qV ops rows r (Nat.lor done (2 ^ i))) none
   | none=>none
section
variable {ops:Array Oper}
theorem yi:∀ (dt:List (Bool × Nat)) (listed:Array Bool) (done dn:Nat),iV ops.size listed done->done < 2 ^ ops.size->qV ops (ops.toList.map (rowOf ops)) dt done=some dn ->
 ∃ l,pk ops dt listed=some l/\iV ops.size l dn/\dn < 2 ^ ops.size
 | [],listed,done,dn,hm,aQ,h=>by
   simp only [qV,ji] at h
   subst h
   exact ⟨listed,rfl,hm,aQ⟩
 | (b,i)::r,listed,done,dn,hm,aQ,h=>by
   obtain ⟨x,hx⟩:∃ x,(ops.toList.map (rowOf ops))[i]?=some x:=by
    cases b <;> simp only [qV] at h <;> split at h <;> first | exact ⟨_,by assumption⟩ | cases h
   obtain ⟨o,ho,rfl⟩:=yp hx
   have hi:i < ops.size:=(lN.1 ho).1
   have tj:Nat.lor done (2 ^ i) < 2 ^ ops.size:=Nat.or_lt_two_pow aQ (Nat.pow_lt_pow_right (by omega) hi)
   have sub:ot (rowOf ops o).a done=true->∀ k,k ∈ y5 o->k < ops.size/\done.testBit k=true:=fun h2 k hk=>by
    have:=tb h2 k ((er k _).2 hk)
    refine ⟨?_,this⟩
    rcases kO k ops.size with h | h
    . exact h
    . rw [Nat.testBit_lt_two_pow (Nat.lt_of_lt_of_le aQ (Nat.pow_le_pow_right (by omega) h))] at this; cases this
   cases b with
   | true =>
     simp only [qV,hx] at h
     cases hc:(!hasB done i && (ot (rowOf ops o).a done && BU done i (rowOf ops o) (ops.toList.map (rowOf ops)) 0)) with
     | false=>rw [hc] at h; cases h
     | true =>
       rw [hc,cond_true] at h
       simp only [bS,Bool.not_eq_true',oK] at hc
       obtain ⟨l,k1,k2,k3⟩:=yi r _ _ dn (hm.set i) tj h
       refine ⟨l,?_,k2,k3⟩
       have IA:(Region.ready .any ops listed).contains i=true:=by
        simp only [List.contains_iff_mem]; exact (qW hm ho).2 ⟨hc.1,sub hc.2.1⟩
       have GX:Region.free .any ops listed i=true:=GK hm ho hc.2.2
       simp only [pk,IA,GX,Bool.and_self,cond_true]
       exact k1
   | false =>
     simp only [qV,hx] at h
     cases hc:(!hasB done i && (ot (rowOf ops o).a done && (BS done i (ops.toList.map (rowOf ops)) 0 && !o7 ops i))) with
     | false=>rw [hc] at h; cases h
     | true =>
       rw [hc,cond_true] at h
       simp only [bS,Bool.not_eq_true',oK] at hc
       obtain ⟨l,k1,k2,k3⟩:=yi r _ _ dn (hm.set i) tj h
       refine ⟨l,?_,k2,k3⟩
       have B6:Region.ready .any ops listed=[i]:=z7 hm ho hc.1 (sub hc.2.1) hc.2.2.1
       have PK:o7 ops i=false:=by simpa using hc.2.2.2
       simp only [pk,B6,PK,iJ,fD,Bool.and_self,cond_true]
       exact k1
def Mz (im:Nat) (done:Nat):List Row->Nat->Bool
 | [],_=>true
 | y::r,j=>(hasB done j || (hasB im j || ot im y.a)) && Mz im done r (j+1)
def P9 (ops:Array Oper) (rows:List Row) (I:oP) (done:Nat):Bool:=I.l.all fun i=>!hasB done i && ((ny ops I i).isSome && (match rows[i]? with | some x=>ot x.a done | none=>false))
def increasing:List Nat->Bool
 | a::b::l=>Nat.blt a b && increasing (b::l)
 | _=>true
def sK:List Int->Bool
 | a::b::l=>decide (a < b) && sK (b::l)
 | _=>true
def Cg (P:Program) (ops:Array Oper) (rows:List Row) (dt:List (Bool × Nat)) (I:oP) (post:List (Bool × Nat)):Bool :=
 DG (ops.toList.map (rowOf ops)) rows && ((match qV ops rows dt 0 with
  | some dn=>Mz (qm I.l) dn rows 0 && (P9 ops rows I dn && yg rows ops.size post (Nat.lor dn (qm I.l)))
  | none=>false) && (increasing I.l && (sK (I.l.map fun i=>((ny ops I i).map (·.1)).getD 0) && (Nat.beq (dt.length+(I.l.length+post.length)) ops.size && (match rz P I.t with | some (.i,_)=>true | _=>false)))))
theorem yW:∀ l:List Nat,increasing l=true->l.Pairwise (· < ·)
 | [],_=>List.Pairwise.nil
 | [a],_=>List.pairwise_singleton ..
 | a::b::l,h=>by
   simp only [increasing,bS] at h
   have Li:a < b:=Nat.le_of_ble_eq_true h.1
   have ih:=yW (b::l) h.2
   refine List.Pairwise.cons (fun y hy=>?_) ih
   rcases cJ.1 hy with rfl | hy
   . exact Li
   . exact Nat.lt_trans Li ((List.pairwise_cons.1 ih).1 y hy)
theorem wT:∀ l:List Int,sK l=true->l.Pairwise (· < ·)
 | [],_=>List.Pairwise.nil
 | [a],_=>List.pairwise_singleton ..
 | a::b::l,h=>by
   simp only [sK,bS,ee] at h
   have ih:=wT (b::l) h.2
   refine List.Pairwise.cons (fun y hy=>?_) ih
   rcases cJ.1 hy with rfl | hy
   . exact h.1
   . exact Int.lt_trans h.1 ((List.pairwise_cons.1 ih).1 y hy)
theorem E0 {im done:Nat}:∀ {l:List Row} {j:Nat},Mz im done l j=true->∀ k y,l[k]?=some y->(done.testBit (j+k)=true\/im.testBit (j+k)=true\/ot im y.a=true)
 | [],_,_,k,y,hy=>by simp at hy
 | z::r,j,h,k,y,hy=>by
   simp only [Mz,bS,jW,oK] at h
   cases k with
   | zero=>simp at hy; subst hy; exact h.1
   | succ k =>
     have:=E0 h.2 k y (by simpa using hy)
     rw [show j+(k+1)=j+1+k by omega]; exact this
theorem iV.gS {n:Nat}:∀ (l:List Nat) (listed:Array Bool) (done:Nat),iV ops.size listed done->iV ops.size (Go.Rip.gS listed l) (Nat.lor done (qm l))
 | [],listed,done,h=>by
   show iV ops.size listed (done ||| 0)
   rw [Nat.or_zero]; exact h
 | i::l,listed,done,h=>by
   have:=iV.gS (n:=n) l _ _ (h.set i)
   show iV ops.size (Go.Rip.gS (listed.setIfInBounds i true) l) (done ||| (2 ^ i ||| qm l))
   rw [<- Nat.or_assoc]; exact this
theorem KG {P:Program} {rows:List Row} {dt:List (Bool × Nat)} {I:oP} {post:List (Bool × Nat)} (h:Cg P ops rows dt I post=true):vA P ops dt I post=true:=by
 simp only [Cg,bS] at h
 obtain ⟨h1,h2,h3,h4,h5,h6⟩:=h
 rw [<- Cn h1] at h2
 split at h2
 . rename_i dn hd
   simp only [bS] at h2
   obtain ⟨b1,b2,b3⟩:=h2
   obtain ⟨l,k1,k2,k3⟩:=yi dt (Array.replicate ops.size false) 0 dn ⟨by simp,fun k hk=>by simp [hk]⟩ (Nat.two_pow_pos _) hd
   have afm:=yW _ h3
   have adS:=wT _ h4
   simp only [P9,fe,bS,Bool.not_eq_true',oK] at b2
   have IC:∀ i ∈ I.l,∃ o,ops[i]?=some o/\ot (rowOf ops o).a dn=true:=fun i hi=>by
    have:=(b2 i hi).2.2
    split at this
    . rename_i x hx
      obtain ⟨o,ho,rfl⟩:=yp hx
      exact ⟨o,ho,this⟩
    . cases this
   have aQ:∀ i ∈ I.l,i < ops.size:=fun i hi=>by
    obtain ⟨o,ho,_⟩:=IC i hi
    exact (lN.1 ho).1
   have him:qm I.l < 2 ^ ops.size:=by
    have:∀ l:List Nat,(∀ i ∈ l,i < ops.size)->qm l < 2 ^ ops.size:=fun l=>by
     induction l with
     | nil=>intro _; exact Nat.two_pow_pos _
     | cons i l ih=>intro hh; exact Nat.or_lt_two_pow (Nat.pow_lt_pow_right (by omega) (hh i (by simp))) (ih fun j hj=>hh j (by simp [hj]))
    exact this _ aQ
   have Zq:∀ {o:Oper} {m:Nat},m < 2 ^ ops.size->ot (rowOf ops o).a m=true->∀ e ∈ o.after,Region.binds .any e=true->m.testBit e.on=true:=fun {o m} PH hs e he hb =>
    tb hs e.on ((er _ _).2 (tX.2 ⟨e,he,hb,rfl⟩))
   simp only [vA,k1,bS]
   refine ⟨⟨?_,yh post _ _ (iV.gS (n:=0) I.l l dn k2) (Nat.or_lt_two_pow k3 him) b3⟩,h5,h6⟩
   simp only [qS,Ec,bS,fe,List.mem_range,jW,ee,Bool.not_eq_true']
   refine ⟨fun j hj=>?_,fun i hi=>?_,?_,fun i hi=>⟨?_,(b2 i hi).2.1,?_⟩,afm.imp (fun h=>Nat.ne_of_lt h),adS.imp (fun h=>Int.ne_of_lt h)⟩
   . obtain ⟨o,ho⟩:∃ o,ops[j]?=some o:=⟨ops[j],by simp [hj]⟩
     have hy:(ops.toList.map (rowOf ops))[j]?=some (rowOf ops o):=by rw [nE]; simp [ho]
     rcases E0 b1 j _ hy with h | h | h
     . left; rw [k2.get hj]; simpa using h
     . right; left
       have:=(er _ _).1 h
       simpa using this
     . right; right
       rw [ho]
       show (I.l.all fun i=>o.after.toList.any fun e=>Region.binds .any e && Nat.beq e.on i)=true
       rw [fe]
       intro i hi
       have:=tb h i ((er _ _).2 hi)
       obtain ⟨e,he,hb,C6⟩:=tX.1 ((er _ _).1 this)
       rw [List.any_eq_true]
       exact ⟨e,by simpa using he,by simp [hb,C6]⟩
   . rw [k2.get (aQ i hi)]; exact (b2 i hi).1
   . rw [k2.1]; simp
   . show Nat.ble (i+1) ops.size=true
     exact Nat.ble_eq_true_of_le (aQ i hi)
   . obtain ⟨o,ho,hs⟩:=IC i hi
     rw [ho]
     simp only [GQ,fe,jW,Bool.not_eq_true']
     intro e he
     cases hb:Region.binds .any e with
     | false=>exact .inl rfl
     | true =>
       right
       have ht:=Zq k3 hs e (by simpa using he) hb
       have tj:e.on < ops.size:=by
        rcases kO e.on ops.size with h | h
        . exact h
        . rw [Nat.testBit_lt_two_pow (Nat.lt_of_lt_of_le k3 (Nat.pow_le_pow_right (by omega) h))] at ht; cases ht
       rw [k2.get tj]; exact ht
 . cases h2
end
end Go.Rip
namespace Go.Rip
open Go.RowKit
inductive T (α:Type) where
 | e
 | n (l:T α) (v:Option α) (r:T α)
theorem zL {a b:Nat} (h:a ≠ b):Nat.beq a b=false:=by
 cases hb:Nat.beq a b with
 | false=>rfl
 | true=>exact absurd (fp hb) h
theorem NP {a b:Nat} (h:a=b):Nat.beq a b=true:=by subst h; exact Nat.beq_refl a
namespace T
variable {α:Type}
def get:T α->Nat->Option α
 | .e,_=>none
 | .n l v r,i=>cond (Nat.beq i 0) v (cond (Nat.beq (i % 2) 1) (l.get (i / 2)) (r.get (i / 2 - 1)))
def yu:Nat->T α->Nat->Option α->T α
 | 0,t,_,_=>t
 | f+1,.e,i,v=>cond (Nat.beq i 0) (.n .e v .e) (cond (Nat.beq (i % 2) 1) (.n (yu f .e (i / 2) v) none .e) (.n .e none (yu f .e (i / 2 - 1) v)))
 | f+1,.n l w r,i,v=>cond (Nat.beq i 0) (.n l v r) (cond (Nat.beq (i % 2) 1) (.n (yu f l (i / 2) v) w r) (.n l w (yu f r (i / 2 - 1) v)))
def set (t:T α) (i:Nat) (v:Option α):T α:=yu (i+1) t i v
theorem Um:∀ (f:Nat) (t:T α) (i j:Nat) (v:Option α),i < f->(yu f t i v).get j=if j=i then v else t.get j:=by
 intro f
 induction f with
 | zero=>intro t i j v h; omega
 | succ f ih =>
   intro t i j v h
   have key:∀ (l r:T α) (w:Option α),(cond (Nat.beq i 0) (.n l v r) (cond (Nat.beq (i % 2) 1) (.n (yu f l (i / 2) v) w r) (.n l w (yu f r (i / 2 - 1) v))):T α).get j=if j=i then v else (T.n l w r).get j:=fun l r w=>by
    by_cases hi:i=0
    . subst hi
      simp only [Nat.beq_refl,cond_true,get]
      by_cases hj:j=0
      . subst hj; simp
      . have:Nat.beq j 0=false:=zL hj
        simp [this,hj]
    . have zw:Nat.beq i 0=false:=zL hi
      rw [zw,cond_false]
      by_cases h1:i % 2=1
      . have hb:Nat.beq (i % 2) 1=true:=NP h1
        rw [hb,cond_true]
        simp only [get]
        by_cases hj:j=0
        . subst hj
          have:(0:Nat) ≠ i:=fun e=>hi e.symm
          simp [this]
        . have Ft:Nat.beq j 0=false:=zL hj
          rw [Ft,cond_false,cond_false]
          by_cases ur:j % 2=1
          . have Ih:Nat.beq (j % 2) 1=true:=NP ur
            rw [Ih,cond_true,cond_true,ih _ _ _ _ (by omega)]
            by_cases e:j=i
            . subst e; simp
            . rw [if_neg (by omega),if_neg e]
          . have Ih:Nat.beq (j % 2) 1=false:=zL ur
            rw [Ih,cond_false,cond_false,if_neg (by omega)]
      . have hb:Nat.beq (i % 2) 1=false:=zL h1
        rw [hb,cond_false]
        simp only [get]
        by_cases hj:j=0
        . subst hj
          have:(0:Nat) ≠ i:=fun e=>hi e.symm
          simp [this]
        . have Ft:Nat.beq j 0=false:=zL hj
          rw [Ft,cond_false,cond_false]
          by_cases ur:j % 2=1
          . have Ih:Nat.beq (j % 2) 1=true:=NP ur
            rw [Ih,cond_true,cond_true,if_neg (by omega)]
          . have Ih:Nat.beq (j % 2) 1=false:=zL ur
            rw [Ih,cond_false,cond_false,ih _ _ _ _ (by omega)]
            by_cases e:j=i
            . subst e; simp
            . rw [if_neg (by omega),if_neg e]
   cases t with
   | n l w r=>exact key l r w
   | e =>
     have:=key .e .e none
     simp only [yu]
     rw [this]
     congr 1
     simp only [get]
     cases Nat.beq j 0 <;> cases Nat.beq (j % 2) 1 <;> rfl
theorem tZ (t:T α) (i j:Nat) (v:Option α):(t.set i v).get j=if j=i then v else t.get j:=Um _ _ _ _ _ (by omega)
def LY:List α->Nat->T α->T α
 | [],_,t=>t
 | x::xs,i,t=>LY xs (i+1) (t.set i (some x))
theorem Lf:∀ (l:List α) (i:Nat) (t:T α) (j:Nat),(LY l i t).get j=if i <= j/\j < i+l.length then l[j - i]? else t.get j
 | [],i,t,j=>by simp [LY]; omega
 | x::xs,i,t,j=>by
   simp only [LY]
   rw [Lf xs (i+1) _ j,tZ]
   by_cases h1:i+1 <= j/\j < i+1+xs.length
   . rw [if_pos h1,if_pos (by simp; omega)]
     have:j - i=(j - (i+1))+1:=by omega
     rw [this]; simp
   . rw [if_neg h1]
     by_cases h2:j=i
     . subst h2; simp
     . rw [if_neg h2,if_neg (by simp; omega)]
end T
def fN (t:T AV):Env:=⟨fun i=>(t.get i).getD (.aH [])⟩
theorem O6 (t:T AV) (d:Nat) (v:AV):fN (t.set d (some v))=(fN t).put d v:=by
 simp only [fN,Env.put,Env.mk.injEq]
 funext i
 rw [T.tZ]
 split <;> rfl
def zW (t:T AV):Option Nat->AV->T AV
 | some d,v=>t.set d (some v)
 | none,_=>t
theorem qK (t:T AV) (d:Option Nat) (v:AV):fN (zW t d v)=(fN t).eN d v:=by
 cases d with
 | none=>rfl
 | some d=>exact O6 t d v
theorem MO (l:List AV):fN (T.LY l 0 .e)=Env.km l:=by
 simp only [fN,Env.km,Env.mk.injEq]
 funext i
 rw [T.Lf]
 by_cases h:i < l.length
 . rw [if_pos (by omega)]; simp [nG]
 . rw [if_neg (by omega)]
   simp [T.get,nG,ym (Nat.le_of_not_lt h)]
structure ES where
 live:T Live
 n:Nat
def bV (e:ES):St:=⟨fun b=>e.live.get b,some e.n⟩
def ES.set (e:ES) (b:Nat) (x:Live):ES:=⟨e.live.set b (some x),e.n⟩
def ES.del (e:ES) (b:Nat):ES:=⟨e.live.set b none,e.n⟩
def ES.th (e:ES):Option Nat->ES
 | some b=>e.del b
 | none=>e
def ES.new (e:ES) (x:Live):ES:=⟨e.live.set e.n (some x),e.n+1⟩
theorem oq (e:ES) (b:Nat) (x:Live):bV (e.set b x)=(bV e).set b x:=by
 simp only [bV,ES.set,St.set,St.mk.injEq,and_true]
 funext y; rw [T.tZ]
theorem Cs (e:ES) (b:Nat):bV (e.del b)=(bV e).del b:=by
 simp only [bV,ES.del,St.del,St.mk.injEq,and_true]
 funext y; rw [T.tZ]
theorem Th (e:ES) (b:Option Nat):bV (e.th b)=(bV e).th b:=by
 cases b with
 | none=>rfl
 | some b=>exact Cs e b
theorem sD (e:ES) (x:Live):bV (e.new x)=(bV e).new e.n x:=by
 simp only [bV,ES.new,St.new,St.mk.injEq,Option.map_some,and_true]
 funext y; rw [T.tZ]
def TY:Fn->Fn->Bool
 | .func a,.func b=>Nat.beq a b
 | _,_=>false
theorem Ya {a b:Fn} (h:TY a b=true):a=b:=by
 cases a <;> cases b <;> simp only [TY,bQ] at h
 rw [fp h]
def MP:mg->mg->Bool
 | .full,.full=>true
 | .own a,.own b=>Nat.beq a b
 | .jc,.jc=>true
 | _,_=>false
theorem TX {a b:mg} (h:MP a b=true):a=b:=by
 cases a <;> cases b <;> simp only [MP,bQ] at h <;> first
  | rfl
  | rw [fp h]
mutual
def jT:AV->AV->Bool
 | .bool a,.bool b=>a == b
 | .int k a,.int k' b=>decide (k=k') && decide (a=b)
 | .str a,.str b=>decide (a=b)
 | .aW,.aW | .aq,.aq | .jO,.jO | .dV,.dV | .dq,.dq=>true
 | .box a i,.box b j=>Nat.beq a b && Nat.beq i j
 | .cQ l,.cQ l'=>pQ l l'
 | .vec n c l,.vec n' c' l'=>Nat.beq n n' && MP c c' && pQ l l'
 | .ms b o n z e,.ms b' o' n' z' e'=>Nat.beq b b' && Nat.beq o o' && Nat.beq n n' && Nat.beq z z' && Nat.beq e e'
 | .mp a,.mp b=>Nat.beq a b
 | .ga ks vs,.ga ks' vs'=>pQ ks ks' && pQ vs vs'
 | .func f a b,.func f' a' b'=>TY f f' && pQ a a' && pQ b b'
 | .iface t v,.iface t' v'=>Nat.beq t t' && jT v v'
 | .agg l,.agg l'=>pQ l l'
 | .aH l,.aH l'=>pQ l l'
 | .rZ a,.rZ b=>Nat.beq a b
 | .it a,.it b=>Nat.beq a b
 | .any,.any=>true
 | _,_=>false
def pQ:List AV->List AV->Bool
 | [],[]=>true
 | x::xs,y::ys=>jT x y && pQ xs ys
 | _,_=>false
end
mutual
theorem wy:∀ {a b:AV},jT a b=true->a=b
 | .bool a,b,h=>by cases b <;> simp only [jT,bQ] at h; simpa using h
 | .int k a,b,h=>by cases b <;> simp only [jT,bQ] at h; simpa using h
 | .str a,b,h=>by cases b <;> simp only [jT,bQ] at h; simpa using h
 | .aW,b,h=>by cases b <;> simp only [jT,bQ] at h; rfl
 | .aq,b,h=>by cases b <;> simp only [jT,bQ] at h; rfl
 | .jO,b,h=>by cases b <;> simp only [jT,bQ] at h; rfl
 | .dV,b,h=>by cases b <;> simp only [jT,bQ] at h; rfl
 | .dq,b,h=>by cases b <;> simp only [jT,bQ] at h; rfl
 | .box a i,b,h=>by cases b <;> simp only [jT,bQ,bS] at h; rw [fp h.1,fp h.2]
 | .cQ l,b,h=>by cases b <;> simp only [jT,bQ] at h; rw [lA h]
 | .vec n c l,b,h=>by cases b <;> simp only [jT,bQ,bS] at h; rw [fp h.1.1,TX h.1.2,lA h.2]
 | .ms b o n z e,b',h=>by
   cases b' <;> simp only [jT,bQ,bS] at h
   rw [fp h.1.1.1.1,fp h.1.1.1.2,fp h.1.1.2,fp h.1.2,fp h.2]
 | .mp a,b,h=>by cases b <;> simp only [jT,bQ] at h; rw [fp h]
 | .ga ks vs,b,h=>by cases b <;> simp only [jT,bQ,bS] at h; rw [lA h.1,lA h.2]
 | .func f a b,b',h=>by cases b' <;> simp only [jT,bQ,bS] at h; rw [Ya h.1.1,lA h.1.2,lA h.2]
 | .iface t v,b,h=>by cases b <;> simp only [jT,bQ,bS] at h; rw [fp h.1,wy h.2]
 | .agg l,b,h=>by cases b <;> simp only [jT,bQ] at h; rw [lA h]
 | .aH l,b,h=>by cases b <;> simp only [jT,bQ] at h; rw [lA h]
 | .rZ a,b,h=>by cases b <;> simp only [jT,bQ] at h; rw [fp h]
 | .it a,b,h=>by cases b <;> simp only [jT,bQ] at h; rw [fp h]
 | .any,b,h=>by cases b <;> simp only [jT,bQ] at h; rfl
theorem lA:∀ {a b:List AV},pQ a b=true->a=b
 | [],b,h=>by cases b <;> simp only [pQ,bQ] at h; rfl
 | x::xs,b,h=>by cases b <;> simp only [pQ,bQ,bS] at h; rw [wy h.1,lA h.2]
end
def HL:Option Live->Option Live->Bool
 | some (.box l),some (.box l')=>pQ l l'
 | some (.mp a b),some (.mp a' b')=>pQ a a' && pQ b b'
 | _,_=>false
theorem O7 {a b:Option Live} (h:HL a b=true):a=b:=by
 unfold HL at h
 split at h
 . rw [lA h]
 . simp only [bS] at h; rw [lA h.1,lA h.2]
 . cases h
end Go.Rip
namespace Go.Rip
open Go.RowKit
structure jm where
 C:cS
 mu:Nat->List Nat
 pf:Nat->Bool
 sm:Nat->List AV->Option AV
 XB:Nat->List AV->ES->Option (AV × ES)
 tr:Nat->Bool
 ft:TypeId
 ins:Nat->Nat->Option (List Row × List (Bool × Nat) × oP × List (Bool × Nat)):=fun _ _=>none
abbrev KR:=cY->ES->Bool
abbrev KC:=Ex->T AV->ES->Bool
abbrev tI:=Nat->List AV->ES->KR->Bool
def rK (k kp:AV->ES->Bool):KR
 | .ret v,e=>k v e
 | .panic v,e=>kp v e
def AR (cf cy:tI) (e:ES):aC->(AV->ES->Bool)->(AV->ES->Bool)->Bool
 | .val v,k,_=>k v e
 | .jd v b x,k,_=>k v (e.set b x)
 | .new kd del x,k,_=>k (kd.at e.n) ((e.th del).new x)
 | .mj b l,k,_=>l.all fun p=>k p.1 (e.set b p.2)
 | .enter f args,k,kp=>cf f args e (rK k kp)
 | .yield o args,k,kp=>cy o args e (rK k kp)
 | .panic v,_,kp=>kp v e
 | @aC.cond p d r,k,kp=>(@decide p d) && AR cf cy e r k kp
 | .bad,_,_=>false
def CM (V:jm) (cf cy:tI) (mu:List Nat) (ops:Array Oper):List Oper->T AV->ES->(T AV->ES->Bool)->(AV->ES->Bool)->Bool
 | [],ρ,e,k,_=>k ρ e
 | o::rest,ρ,e,k,kp=>match iB ops (fN ρ) o.guard with
   | .bool true=>AR cf cy e (kn V.C (oV mu o) o.op (fN ρ) (bV e)) (fun v e'=>CM V cf cy mu ops rest (zW ρ o.dst v) e' k kp) kp
   | .bool false=>CM V cf cy mu ops rest (zW ρ o.dst (.aH [])) e k kp
   | _=>false
def Mr (V:jm):aC->Option AV
 | .val v=>some v
 | @aC.cond p d r=>cond (@decide p d) (Mr V r) none
 | .enter f args=>V.sm f args
 | _=>none
def N7 (B:List Nat) (e0 e:ES):Bool:=B.all fun b=>HL (e.live.get b) (e0.live.get b)
def Ek (C:cS) (B:List Nat) (ρ:Env) (op:Op):Bool:=op.operands.toList.all fun x=>(eM (ρ.ev C x)).all fun b=>B.any fun c=>Nat.beq c b
def p4 (V:jm) (cf cy:tI) (mu:List Nat) (ops:Array Oper) (B:List Nat) (e0:ES):List (Bool × Nat)->T AV->ES->(T AV->ES->Bool)->(AV->ES->Bool)->Bool
 | [],ρ,e,k,_=>k ρ e
 | (true,i)::r,ρ,e,k,kp=>match ops[i]? with
   | none=>false
   | some o=>match iB ops (fN ρ) o.guard with
     | .bool true=>quiet o.op && (!pI o.op || Ek V.C B (fN ρ) o.op) && (match Mr V (kn V.C (oV mu o) o.op (fN ρ) (bV e0)) with
       | some v=>p4 V cf cy mu ops B e0 r (zW ρ o.dst v) e k kp
       | none=>false)
     | .bool false=>p4 V cf cy mu ops B e0 r (zW ρ o.dst (.aH [])) e k kp
     | _=>false
 | (false,i)::r,ρ,e,k,kp=>match ops[i]? with
   | none=>false
   | some o=>match iB ops (fN ρ) o.guard with
     | .bool true=>AR cf cy e (kn V.C (oV mu o) o.op (fN ρ) (bV e)) (fun v e'=>(N7 B e0 e' || sQ ops i) && p4 V cf cy mu ops B e0 r (zW ρ o.dst v) e' k kp) kp
     | .bool false=>p4 V cf cy mu ops B e0 r (zW ρ o.dst (.aH [])) e k kp
     | _=>false
def QO (V:jm) (o:Oper):Bool:=match o.op with
 | .call c=>match c.callee with
   | .value (.func f)=>V.pf f
   | .value _=>false
   | _=>quiet o.op
 | op=>quiet op
def zK (V:jm) (ops:Array Oper):Nat->Array Bool->List (Bool × Nat)
 | 0,_=>[]
 | n+1,listed=>match (Region.ready .any ops listed).find? fun i=>match ops[i]? with | some o=>QO V o | none=>false with
   | some i=>(true,i)::zK V ops n (listed.setIfInBounds i true)
   | none=>match Region.ready .any ops listed with
     | i::_=>(false,i)::zK V ops n (listed.setIfInBounds i true)
     | []=>[]
def preB (V:jm) (mu:List Nat) (e0:ES):List Oper->T AV->List Nat->List Nat
 | [],_,B=>B
 | o::r,ρ,B=>preB V mu e0 r (zW ρ o.dst (cond (QO V o) ((Mr V (kn V.C (oV mu o) o.op (fN ρ) (bV e0))).getD .any) .any)) (cond (pI o.op) (o.op.operands.toList.flatMap (fun x=>eM ((fN ρ).ev V.C x))++B) B)
def NI (P:Program) (ty:TypeId) (p:AV) (U:St):Option AV:=match vj P ty p U with
 | .val v=>some v
 | @aC.cond q d (.val v)=>cond (@decide q d) (some v) none
 | _=>none
def Cm (P:Program) (ρ:Env) (U:St):List ResultVar->Option (List AV)
 | []=>some []
 | .tmp t::rs=>(Cm P ρ U rs).map fun vs=>ρ.get t::vs
 | .cell t ty::rs=>match NI P ty (ρ.get t) U with
   | some v=>(Cm P ρ U rs).map fun vs=>v::vs
   | none=>none
abbrev uW:=Nat->List Nat->Nat->Ro->Code->T AV->ES->KC->Bool
def TU (P:Program) (fn:Func) (k:KR):KC:=fun ex ρ e=>match ex with
 | .normal | .ret=>match Cm P (fN ρ) (bV e) fn.results.toList with
   | some vs=>k (.ret (wh vs)) e
   | none=>false
 | .panic x=>k (.panic x) e
 | .exit _=>false
def JT (ft:TypeId) (a:Nat) (k:KR):KR
 | .ret v,e=>match (bV e).box a,(bV e).box (a+1),(bV e).box (a+2) with
   | some [_],some [_],some [_]=>v.scalar && k (.ret (.aH [v,.int .i64 0,.bool true])) (((e.set a (.box [v])).set (a+1) (.box [.int .i64 0])).set (a+2) (.box [.bool true]))
   | _,_,_=>false
 | .panic x,e=>match x,(bV e).box a,(bV e).box (a+1),(bV e).box (a+2) with
   | .iface t (.agg [.int .i64 at_]),some [_],some [_],some [_]=>Nat.beq t ft && k (.ret (.aH [.aW,.int .i64 at_,.bool false])) ((((e.new (.box [.int .i64 at_])).set a (.box [.aW])).set (a+1) (.box [.int .i64 at_])).set (a+2) (.box [.bool false]))
   | _,_,_,_=>false
def GS (V:jm) (ev:uW):tI:=fun f args e k =>
 match V.sm f args with
 | some x=>k (.ret x) e
 | none=>match V.XB f args e with
   | some (x,e')=>k (.ret x) e'
   | none=>match V.C.P.funcs[f]? with
     | some fn=>match fn.body with
       | some c=>Nat.ble args.length fn.ntmps && ev fn.ntmps (V.mu f) f .fn c (T.LY args 0 .e) e (TU V.C.P fn k)
       | none=>false
     | none=>false
def aci (e:ES):ES:=((e.new (.box [.aW])).new (.box [.int .i64 0])).new (.box [.bool false])
def tL (V:jm) (ev:uW):tI:=fun f args e k =>
 cond (V.tr f) (match args with
  | [_,.func (.func g) first cap]=>fw V.C.P g && GS V ev g (first++cap) (aci e) (JT V.ft e.n k)
  | _=>false) (GS V ev f args e k)
def endRound (o:Nat) (k:KR):KC:=fun ex _ e=>match (bV e).loop o with
 | some L=>match ex with
   | .normal=>k (.ret (.bool true)) (e.set o (.loop { L with state:=.ready,gh:=none }))
   | .ret=>k (.ret (.bool false)) (e.set o (.loop { L with state:=.done,gh:=some .ret }))
   | .exit id=>k (.ret (.bool false)) (e.set o (.loop { L with state:=.done,gh:=some (.exit id) }))
   | .panic _=>false
 | none=>false
def isReady:LoopState->Bool
 | .ready=>true
 | _=>false
def P4:LoopState->Bool
 | .busy=>true
 | _=>false
def sE (f:Nat->AV):Nat->T AV->T AV
 | 0,t=>t
 | n+1,t=>sE f n (t.set n (some (f n)))
def xp (V:jm) (ev:uW):tI:=fun o args e k =>
 match (bV e).loop o with
 | some L=>Nat.beq args.length L.params.size && L.params.toList.all (fun t=>Nat.blt t L.nt) &&
   ev L.nt (V.mu L.tag) L.tag (.round o) L.assign (sE (yk L.ρ L.params.toList args) L.nt .e) e (fun ex ρ e=>match ex with
    | .normal=>match (bV e).loop o with
      | some L'=>isReady L'.state && ev L.nt (V.mu L.tag) L.tag (.round o) L.body ρ (e.set o (.loop { L' with state:=.busy })) (endRound o k)
      | none=>false
    | _=>false)
 | none=>false
def HK (o:Nat) (ρ:T AV) (k:KC):KR
 | .ret _,e=>match (bV e).loop o with
   | some L=>!P4 L.state && (match L.gh with
     | none=>k .normal ρ (e.del o)
     | some .ret=>k .ret ρ (e.del o)
     | some (.exit id)=>k (.exit id) ρ (e.del o)
     | _=>false)
   | none=>false
 | .panic x,e=>k (.panic x) .e e
def UI (V:jm) (ops:Array Oper) (B:List Nat) (I:oP) (ρ:T AV) (e:ES) (k:T AV->ES->Bool):Bool:=match (fN ρ).get I.m with
 | .mp id=>(match (bV e).mp id with | some ([],[])=>true | _=>false) && (B.all (fun b=>!Nat.beq b id) && k ρ (e.set id (.mp (p9 I.kk (oL V.C ops (fN ρ) I) ([],[])).1 (p9 I.kk (oL V.C ops (fN ρ) I) ([],[])).2)))
 | _=>false
def oZ (V:jm):Nat->uW
 | 0=>fun _ _ _ _ _ _ _ _=>false
 | n+1=>fun nt mu tag ro c ρ e k =>
   match c with
   | .skip=>k .normal ρ e
   | .exit id=>k (.exit id) ρ e
   | .ret=>k .ret ρ e
   | .seq a b=>oZ V n nt mu tag ro a ρ e fun ex ρ e=>match ex with
     | .normal=>oZ V n nt mu tag ro b ρ e k
     | ex=>k ex ρ e
   | .cond x a b=>match (fN ρ).ev V.C x with
     | .bool true=>oZ V n nt mu tag ro a ρ e k
     | .bool false=>oZ V n nt mu tag ro b ρ e k
     | _=>false
   | .block id a=>oZ V n nt mu tag ro a ρ e fun ex ρ e=>match ex with
     | .exit Bw=>cond (Nat.beq Bw id) (k .normal ρ e) (k (.exit Bw) ρ e)
     | ex=>k ex ρ e
   | .loop a=>oZ V n nt mu tag ro a ρ e fun ex ρ e=>match ex with
     | .normal=>oZ V n nt mu tag ro (.loop a) ρ e k
     | ex=>k ex ρ e
   | .region _ ops false=>lW nt ops && CM V (tL V (oZ V n)) (xp V (oZ V n)) mu ops ops.toList ρ e (fun ρ e=>k .normal ρ e) (fun x e=>k (.panic x) .e e)
   | .region id ops true=>match V.ins tag id with
     | none=>lW nt ops && (ja ops (zK V ops ops.size (Array.replicate ops.size false)) (Array.replicate ops.size false) && ((zK V ops ops.size (Array.replicate ops.size false)).length == ops.size)) &&
     p4 V (tL V (oZ V n)) (xp V (oZ V n)) mu ops (preB V mu e ops.toList ρ []) e (zK V ops ops.size (Array.replicate ops.size false)) ρ e (fun ρ e=>k .normal ρ e) (fun x e=>k (.panic x) .e e)
     | some (rows,dt,I,post)=>lW nt ops && (Cg V.C.P ops rows dt I post && p4 V (tL V (oZ V n)) (xp V (oZ V n)) mu ops (preB V mu e ops.toList ρ []) e dt ρ e (fun ez e'=>UI V ops (preB V mu e ops.toList ρ []) I ez e' (fun ez e'=>p4 V (tL V (oZ V n)) (xp V (oZ V n)) mu ops (preB V mu e ops.toList ρ []) e post ez e' (fun ρ e=>k .normal ρ e) (fun x e=>k (.panic x) .e e))) (fun x e=>k (.panic x) .e e))
   | .rangeFunc f ps assign body=>match ro,(fN ρ).ev V.C f with
     | .fn,.func (.func kP) first cap=>fw V.C.P kP && tL V (oZ V n) kP (first++[.rZ e.n]++cap) (e.new (.loop ⟨(fN ρ).get,nt,ps,assign,body,.ready,none,tag⟩)) (HK e.n ρ k)
     | _,_=>false
   | _=>false
def kR (k:KR):cY->St->Prop:=fun r U=>∃ e,U=bV e/\k r e=true
def kA (k:AV->ES->Bool):AV->St->Prop:=fun v U=>∃ e,U=bV e/\k v e=true
def kE (k:T AV->ES->Bool):Env->St->Prop:=fun ρ U=>∃ t e,ρ=fN t/\U=bV e/\k t e=true
def kC (k:KC):Ex->Env->St->Prop
 | .panic x,_,U=>∃ e,U=bV e/\k (.panic x) .e e=true
 | ex,ρ,U=>∃ t e,ρ=fN t/\U=bV e/\k ex t e=true
def JU (ft:TypeId) (a b c:Nat) (R:cY->St->Prop):cY->St->Prop
 | .ret v,U=>v.scalar=true/\(∃ x,U.box a=some [x])/\(∃ x,U.box b=some [x])/\(∃ x,U.box c=some [x])/\R (.ret (.aH [v,.int .i64 0,.bool true])) (((U.bZ a [v]).bZ b [.int .i64 0]).bZ c [.bool true])
 | .panic x,U=>∃ at_,x=.iface ft (.agg [.int .i64 at_])/\(∃ x,U.box a=some [x])/\(∃ x,U.box b=some [x])/\(∃ x,U.box c=some [x]) /\
    ∀ q,U.dA q->R (.ret (.aH [.aW,.int .i64 at_,.bool false])) ((((U.new q (.box [.int .i64 at_])).bZ a [.aW]).bZ b [.int .i64 at_]).bZ c [.bool false])
def KU (C:cS) (ft:TypeId) (f:Nat):Prop:=∀ r g first cap U R,fw C.P g=true ->
 (∀ a b c,U.dA a->(U.new a (.box [.aW])).dA b->((U.new a (.box [.aW])).new b (.box [.int .i64 0])).dA c ->
   ae C g (first++cap) (((U.new a (.box [.aW])).new b (.box [.int .i64 0])).new c (.box [.bool false])) (JU ft a b c R))->ae C f [r,.func (.func g) first cap] U R
structure r9 (V:jm):Prop where
 sm:∀ f args x,V.sm f args=some x->Pure V.C f args x
 XB:∀ f args e x e',V.XB f args e=some (x,e')->∀ R,R (.ret x) (bV e')->ae V.C f args (bV e) R
 tr:∀ f,V.tr f=true->KU V.C V.ft f
 mixed:V.C.P.follows .mixedOrders=true
def y2 (V:jm) (cf:tI):Prop:=∀ f args e k,cf f args e k=true->ae V.C f args (bV e) (kR k)
def Ap (V:jm) (cy:tI):Prop:=∀ o args e k,cy o args e k=true->ni V.C o args (bV e) (kR k)
def wk (V:jm) (ev:uW):Prop:=∀ nt mu tag ro c ρ e k,ev nt mu tag ro c ρ e k=true->bH V.C nt ro c (kC k) (fN ρ) (bV e)
theorem tY {e:ES} {b:Nat} (h:(bV e).dA b):b=e.n:=h.2 _ rfl
theorem OZ (e:ES) (d:Option Nat):(e.th d).n=e.n:=by cases d <;> rfl
section
variable {V:jm} {cf cy:tI}
theorem Cp (hf:y2 V cf) (hy:Ap V cy) {e:ES} {k kp:AV->ES->Bool}:∀ (r:aC),AR cf cy e r k kp=true->r.wp V.C (bV e) (kA k) (kA kp)
 | .val v,h=>⟨e,rfl,h⟩
 | .jd v b x,h=>⟨e.set b x,(oq e b x).symm,h⟩
 | .new kd del x,h=>fun b hb=>by
   rw [<- Th] at hb ⊢
   have:=tY hb
   rw [OZ] at this
   subst this
   exact ⟨(e.th del).new x,by rw [sD,OZ],h⟩
 | .mj b l,h=>fun p hp=>by
   simp only [AR,fe] at h
   exact ⟨e.set b p.2,(oq e b p.2).symm,h p hp⟩
 | .enter f args,h=>(hf f args e _ h).mono fun r U hr=>by cases r <;> exact hr
 | .yield o args,h=>(hy o args e _ h).mono fun r U hr=>by cases r <;> exact hr
 | .panic v,h=>⟨e,rfl,h⟩
 | @aC.cond p d r,h=>by
   simp only [AR,bS] at h
   exact ⟨@of_decide_eq_true p d h.1,Cp hf hy r h.2⟩
 | .bad,h=>by cases h
theorem Yg {ops:Array Oper} {B:List Nat} {I:oP} {k:T AV->ES->Bool} (ρ:T AV) (e:ES) (h:UI V ops B I ρ e k=true):Nr V.C ops B I (kE k) (fN ρ) (bV e):=by
 unfold UI at h
 split at h
 . rename_i id hid
   simp only [bS,fe,Bool.not_eq_true'] at h
   obtain ⟨h1,h2,h3⟩:=h
   split at h1
   . rename_i Is
     refine ⟨id,hid,Is,fun hm=>?_,ρ,_,rfl,(oq e id _).symm,h3⟩
     have:=h2 id hm
     simp at this
   . cases h1
 . cases h
theorem B0 (hf:y2 V cf) (hy:Ap V cy) {mu:List Nat} {ops:Array Oper} {k:T AV->ES->Bool} {kp:AV->ES->Bool}:∀ (l:List Oper) (ρ:T AV) (e:ES),CM V cf cy mu ops l ρ e k kp=true ->
 pT V.C mu ops l (fN ρ) (bV e) (kE k) (kA kp)
 | [],ρ,e,h=>⟨ρ,e,rfl,rfl,h⟩
 | o::rest,ρ,e,h=>by
   simp only [CM] at h
   simp only [pT]
   split at h
   . rename_i hg
     rw [hg]
     refine ⟨fun _=>?_,fun h=>(by cases h)⟩
     refine aC.wp_mono ?_ _ (Cp hf hy _ h)
     rintro v U ⟨e',rfl,hk⟩
     have:=B0 hf hy rest _ e' hk
     rw [qK] at this
     exact this
   . rename_i hg
     rw [hg]
     refine ⟨fun h=>(by cases h),fun _=>?_⟩
     have:=B0 hf hy rest _ e h
     rw [qK] at this
     exact this
   . cases h
theorem TA (hV:r9 V):∀ (r:aC) (v:AV),Mr V r=some v->r.yv V.C v
 | .val u,v,h=>by simp only [Mr,ji] at h; exact h
 | @aC.cond p d r,v,h=>by
   simp only [Mr] at h
   cases hd:@decide p d with
   | false=>rw [hd] at h; cases h
   | true=>rw [hd] at h; exact ⟨@of_decide_eq_true p d hd,TA hV r v h⟩
 | .enter f args,v,h=>hV.sm f args v h
 | .jd _ _ _,v,h=>by cases h
 | .new _ _ _,v,h=>by cases h
 | .mj _ _,v,h=>by cases h
 | .yield _ _,v,h=>by cases h
 | .panic _,v,h=>by cases h
 | .bad,v,h=>by cases h
theorem Vh {B:List Nat} {e0 e:ES} (h:N7 B e0 e=true):da B (bV e0) (bV e):=fun b hb=>by
 unfold N7 at h
 rw [fe] at h
 exact O7 (h b hb)
theorem Ng {C:cS} {B:List Nat} {ρ:Env} {op:Op} (h:Ek C B ρ op=true):∀ x ∈ op.operands.toList,∀ b ∈ eM (ρ.ev C x),b ∈ B:=fun x hx b hb=>by
 unfold Ek at h
 rw [fe] at h
 have:=h x hx
 rw [fe] at this
 have:=this b hb
 rw [List.any_eq_true] at this
 obtain ⟨c,hc,he⟩:=this
 rw [<- fp he]; exact hc
theorem pg (hV:r9 V) (hf:y2 V cf) (hy:Ap V cy) {mu:List Nat} {ops:Array Oper} {B:List Nat} {e0:ES} {k:T AV->ES->Bool} {kp:AV->ES->Bool}:∀ (l:List (Bool × Nat)) (ρ:T AV) (e:ES),p4 V cf cy mu ops B e0 l ρ e k kp=true ->
 my V.C mu ops B (bV e0) (kE k) (kA kp) l (fN ρ) (bV e)
 | [],ρ,e,h=>⟨ρ,e,rfl,rfl,h⟩
 | (true,i)::r,ρ,e,h=>by
   simp only [p4] at h
   split at h
   . cases h
   . rename_i o ho
     split at h
     . rename_i hg
       simp only [bS,jW,Bool.not_eq_true'] at h
       obtain ⟨⟨h1,h2⟩,h3⟩:=h
       split at h3
       . rename_i v hv
         refine ⟨o,v,ho,.inl ⟨hg,h1,fun IB=>?_,TA hV _ _ hv⟩,?_⟩
         . rcases h2 with h2 | h2
           . rw [IB] at h2; cases h2
           . exact Ng h2
         . have:=pg hV hf hy r _ e h3
           rw [qK] at this
           exact this
       . cases h3
     . rename_i hg
       refine ⟨o,.aH [],ho,.inr ⟨hg,rfl⟩,?_⟩
       have:=pg hV hf hy r _ e h
       rw [qK] at this
       exact this
     . cases h
 | (false,i)::r,ρ,e,h=>by
   simp only [p4] at h
   simp only [my,lY]
   split at h
   . cases h
   . rename_i o ho
     try rw [ho]
     try dsimp only
     split at h
     . rename_i hg
       rw [hg]
       refine ⟨fun _=>?_,fun h=>(by cases h)⟩
       refine aC.wp_mono ?_ _ (Cp hf hy _ h)
       rintro v U ⟨e',rfl,hk⟩
       simp only [bS] at hk
       refine ⟨?_,?_⟩
       . rw [jW] at hk
         rcases hk.1 with h | h
         . exact .inr (Vh h)
         . exact .inl (Yt h)
       have:=pg hV hf hy r _ e' hk.2
       rw [qK] at this
       exact this
     . rename_i hg
       rw [hg]
       refine ⟨fun h=>(by cases h),fun _=>?_⟩
       have:=pg hV hf hy r _ e h
       rw [qK] at this
       exact this
     . cases h
theorem vy {C:cS} {mu:List Nat} {ops:Array Oper} {K K':Env->St->Prop} {Kp yL:AV->St->Prop} (hk:∀ ρ U,K ρ U->K' ρ U) (hp:∀ v U,Kp v U->yL v U):∀ (l:List Oper) {ρ:Env} {U:St},pT C mu ops l ρ U K Kp->pT C mu ops l ρ U K' yL
 | [],_,_,h=>hk _ _ h
 | o::rest,ρ,U,h=>by
   simp only [pT] at h ⊢
   have wpp:∀ (r:aC) {U:St} {X:AV->St->Prop},r.wp C U X Kp->r.wp C U X yL:=fun r=>by
    induction r with
    | val _=>exact fun h=>h
    | jd _ _ _=>exact fun h=>h
    | new _ _ _=>exact fun h=>h
    | mj _ _=>exact fun h=>h
    | enter f args=>exact fun h=>h.mono fun r U hr=>by cases r <;> first | exact hr | exact hp _ _ hr
    | yield o args=>exact fun h=>h.mono fun r U hr=>by cases r <;> first | exact hr | exact hp _ _ hr
    | panic v=>exact fun h=>hp _ _ h
    | cond p r ih=>exact fun h=>⟨h.1,ih h.2⟩
    | bad=>exact fun h=>h
   cases hg:iB ops ρ o.guard <;> rw [hg] at h <;> simp only [av] at h ⊢
   exact ⟨fun e=>aC.wp_mono (fun v U hv=>vy hk hp rest hv) _ (wpp _ (h.1 e)),fun e=>vy hk hp rest (h.2 e)⟩
theorem UX {P:Program} {ty:TypeId} {p v:AV} {U:St} (h:NI P ty p U=some v) {k:AV->Prop} (hk:k v):AK P ty p U k:=by
 unfold NI at h
 unfold AK
 split at h
 . rename_i u hu
   cases h
   first | exact hk | (rw [hu]; exact hk)
 . rename_i q d u hu
   cases hd:@decide q d with
   | false=>rw [hd] at h; cases h
   | true =>
     rw [hd] at h; cases h
     first | exact ⟨@of_decide_eq_true q d hd,hk⟩ | (rw [hu]; exact ⟨@of_decide_eq_true q d hd,hk⟩)
 . cases h
theorem AQ {P:Program} {ρ:Env} {U:St}:∀ (rs:List ResultVar) (vs:List AV) (k:List AV->Prop),Cm P ρ U rs=some vs->k vs->we P ρ U rs k
 | [],vs,k,h,hk=>by simp only [Cm,ji] at h; subst h; exact hk
 | .tmp t::rs,vs,k,h,hk=>by
   simp only [Cm,pV] at h
   obtain ⟨us,hu,rfl⟩:=h
   exact AQ rs us _ hu hk
 | .cell t ty::rs,vs,k,h,hk=>by
   simp only [Cm] at h
   split at h
   . rename_i v hv
     simp only [pV] at h
     obtain ⟨us,hu,rfl⟩:=h
     exact UX hv (AQ rs us _ hu hk)
   . cases h
theorem HA (hV:r9 V) {ev:uW} (he:wk V ev):y2 V (GS V ev):=fun f args e k h=>by
 simp only [GS] at h
 split at h
 . rename_i x hx
   exact hV.sm f args x hx _ _ ⟨e,rfl,h⟩
 . split at h
   . rename_i x e' hx
     exact hV.XB f args e x e' hx _ ⟨e',rfl,h⟩
   . split at h
     . rename_i fn hfn
       split at h
       . rename_i c hc
         simp only [bS] at h
         refine ae.LZ hfn hc (Nat.le_of_ble_eq_true h.1) ?_
         have:=he _ _ _ _ _ _ _ _ h.2
         rw [MO] at this
         refine this.mono ?_
         intro ex ρ U hc
         cases ex with
         | normal =>
           obtain ⟨t,e',rfl,rfl,hk⟩:=hc
           simp only [TU] at hk
           split at hk
           . rename_i vs zC
             exact AQ _ vs _ zC ⟨_,_,oQ.refl _ _,e',rfl,hk⟩
           . cases hk
         | ret =>
           obtain ⟨t,e',rfl,rfl,hk⟩:=hc
           simp only [TU] at hk
           split at hk
           . rename_i vs zC
             exact AQ _ vs _ zC ⟨_,_,oQ.refl _ _,e',rfl,hk⟩
           . cases hk
         | panic x =>
           obtain ⟨e',rfl,hk⟩:=hc
           exact ⟨e',rfl,hk⟩
         | exit id =>
           obtain ⟨t,e',rfl,rfl,hk⟩:=hc
           cases hk
       . cases h
     . cases h
theorem oO (e:ES) (b:Nat) (l:List AV):(bV e).bZ b l=bV (e.set b (.box l)):=(oq e b _).symm
theorem HB (hV:r9 V) {ev:uW} (he:wk V ev):y2 V (tL V ev):=fun f args e k h=>by
 simp only [tL] at h
 cases htr:V.tr f with
 | false=>rw [htr] at h; exact HA hV he f args e k h
 | true =>
   rw [htr] at h
   simp only [cond_true] at h
   split at h
   . rename_i r g first cap
     rw [bS] at h
     obtain ⟨uq,h⟩:=h
     refine hV.tr f htr r g first cap _ _ uq fun a b c ha hb hc=>?_
     have ea:=tY ha
     subst ea
     rw [<- sD] at hb hc ⊢
     have eb:=tY hb
     subst eb
     rw [<- sD] at hc ⊢
     have ec:=tY hc
     subst ec
     rw [<- sD]
     refine (HA hV he g _ _ _ h).mono ?_
     rintro r U ⟨e',rfl,hk⟩
     cases r with
     | ret v =>
       simp only [JT] at hk
       split at hk
       . rename_i x y z h1 h2 h3
         rw [bS] at hk
         refine ⟨hk.1,⟨x,h1⟩,⟨y,h2⟩,⟨z,h3⟩,?_⟩
         rw [oO,oO,oO]
         exact ⟨_,rfl,hk.2⟩
       . cases hk
     | panic x =>
       simp only [JT] at hk
       split at hk
       . rename_i t at_ x y z h1 h2 h3
         simp only [bS] at hk
         have ht:=fp hk.1
         subst ht
         refine ⟨at_,rfl,⟨x,h1⟩,⟨y,h2⟩,⟨z,h3⟩,fun q hq=>?_⟩
         have eq:=tY hq
         subst eq
         rw [<- sD,oO,oO,oO]
         exact ⟨_,rfl,hk.2⟩
       . cases hk
   . cases h
theorem uM (f:Nat->AV):∀ (n:Nat) (t:T AV) (i:Nat),(sE f n t).get i=if i < n then some (f i) else t.get i
 | 0,t,i=>by simp [sE]
 | n+1,t,i=>by
   simp only [sE]
   rw [uM f n,T.tZ]
   by_cases h:i < n
   . rw [if_pos h,if_pos (by omega)]
   . rw [if_neg h]
     by_cases e:i=n
     . subst e; simp
     . rw [if_neg e,if_neg (by omega)]
end
end Go.Rip
namespace Go.Rip
open Go.RowKit
theorem bH.env {C:cS} {nt:Nat} {ro:Ro} {c:Code} {Q:Ex->Env->St->Prop} {ρ ez:Env} {U:St} (h1:∀ t,t < nt->ez.get t=ρ.get t) (h2:∀ t,nt <= t->ez.get t=.aH []) (h:bH C nt ro c Q ez U):bH C nt ro c Q ρ U:=by
 intro g w a fr k1 k2 k3 k4 k5
 refine h g w a fr k1 k2 (fun t=>?_) k4 k5
 by_cases ht:t < nt
 . rw [h1 t ht]; exact k3 t
 . rw [h2 t (by omega)]
   have:a.tmps.getD t undef=undef:=by
    rw [Array.getD_eq_getD_getElem?,yn (by omega)]; rfl
   rw [this]; exact vE
section
variable {V:jm}
theorem Tz (hV:r9 V) {ev:uW} (he:wk V ev):Ap V (xp V ev):=fun o args e k h=>by
 simp only [xp] at h
 split at h
 . rename_i L hL
   simp only [bS] at h
   obtain ⟨⟨h1,h2⟩,h3⟩:=h
   refine ni.Ji hL (fp h1) (fun t ht=>?_) ?_
   . rw [fe] at h2
     have:=h2 t ht
     simpa [Nat.blt_eq] using this
   . have h4:=he _ _ _ _ _ _ _ _ h3
     refine bH.env (ez:=fN (sE (yk L.ρ L.params.toList args) L.nt .e)) (fun t ht=>?_) (fun t ht=>?_) ?_
     . simp only [fN]; rw [uM,if_pos ht]; rfl
     . simp only [fN]; rw [uM,if_neg (by omega)]; rfl
     . refine h4.mono ?_
       intro ex ρ U hc
       cases ex with
       | normal =>
         obtain ⟨t,e',rfl,rfl,hk⟩:=hc
         dsimp only at hk
         split at hk
         . rename_i L' Lh
           simp only [bS] at hk
           refine ⟨L',Lh,?_,?_⟩
           . have:=hk.1
             cases hs:L'.state <;> rw [hs] at this <;> first
              | rfl
              | (simp [isReady] at this)
           . have h5:=he _ _ _ _ _ _ _ _ hk.2
             rw [oq] at h5
             refine h5.mono ?_
             intro ex ρ U Bi
             cases ex with
             | normal =>
               obtain ⟨t',e2,rfl,rfl,gz⟩:=Bi
               simp only [endRound] at gz
               split at gz
               . rename_i L2 Pq; exact ⟨L2,Pq,_,(oq _ _ _).symm,gz⟩
               . cases gz
             | ret =>
               obtain ⟨t',e2,rfl,rfl,gz⟩:=Bi
               simp only [endRound] at gz
               split at gz
               . rename_i L2 Pq; exact ⟨L2,Pq,_,(oq _ _ _).symm,gz⟩
               . cases gz
             | exit id =>
               obtain ⟨t',e2,rfl,rfl,gz⟩:=Bi
               simp only [endRound] at gz
               split at gz
               . rename_i L2 Pq; exact ⟨L2,Pq,_,(oq _ _ _).symm,gz⟩
               . cases gz
             | panic x =>
               obtain ⟨e2,rfl,gz⟩:=Bi
               simp only [endRound] at gz
               split at gz <;> cases gz
         . cases hk
       | exit id=>obtain ⟨t,e',rfl,rfl,hk⟩:=hc; cases hk
       | ret=>obtain ⟨t,e',rfl,rfl,hk⟩:=hc; cases hk
       | panic x=>obtain ⟨e',rfl,hk⟩:=hc; cases hk
 . cases h
theorem TZ (hV:r9 V) (n:Nat) (ihs:∀ m,m < n->wk V (oZ V m)):wk V (oZ V n):=by
 cases n with
 | zero=>intro nt mu tag ro c ρ e k h; cases h
 | succ n =>
   intro nt mu tag ro c ρ e k h
   have ih:=ihs n (Nat.lt_succ_self n)
   have hf:=HB hV ih
   have hy:=Tz hV ih
   by_cases hl:∃ a,c=.loop a
   . obtain ⟨a,rfl⟩:=hl
     refine bH.loop (fun j ρ U=>j <= n+1/\∃ t e,ρ=fN t/\U=bV e/\oZ V j nt mu tag ro (.loop a) t e k=true) (n:=n+1) ⟨bT _,ρ,e,rfl,rfl,h⟩ ?_
     rintro j ez ad ⟨hj,t,e',rfl,rfl,hk⟩
     cases j with
     | zero=>cases hk
     | succ j =>
       simp only [oZ] at hk
       refine (ihs j (by omega) _ _ _ _ _ _ _ _ hk).mono ?_
       intro ex rR bh hc
       cases ex with
       | normal =>
         obtain ⟨t2,e2,rfl,rfl,gz⟩:=hc
         exact ⟨j,Nat.lt_succ_self j,by omega,t2,e2,rfl,rfl,gz⟩
       | exit id=>exact hc
       | ret=>exact hc
       | panic x=>exact hc
   simp only [oZ] at h
   split at h
   . exact bH.skip ⟨ρ,e,rfl,rfl,h⟩
   . exact bH.exit ⟨ρ,e,rfl,rfl,h⟩
   . exact bH.ret ⟨ρ,e,rfl,rfl,h⟩
   . rename_i a b
     refine bH.seq ((ih _ _ _ _ _ _ _ _ h).mono ?_)
     intro ex ez ad hc
     cases ex with
     | normal =>
       obtain ⟨t,e',rfl,rfl,hk⟩:=hc
       exact ih _ _ _ _ _ _ _ _ hk
     | exit id=>exact hc
     | ret=>exact hc
     | panic x=>exact hc
   . rename_i x a b
     split at h
     . rename_i hc; exact bH.adA hc (ih _ _ _ _ _ _ _ _ h)
     . rename_i hc; exact bH.adz hc (ih _ _ _ _ _ _ _ _ h)
     . cases h
   . rename_i id a
     refine bH.block ((ih _ _ _ _ _ _ _ _ h).mono ?_)
     intro ex ez ad hc
     cases ex with
     | normal=>exact hc
     | exit Bw =>
       obtain ⟨t,e',rfl,rfl,hk⟩:=hc
       simp only [y9]
       dsimp only at hk
       split
       . rename_i hid
         subst hid
         rw [Nat.beq_refl,cond_true] at hk
         exact ⟨t,e',rfl,rfl,hk⟩
       . rename_i hid
         rw [zL hid,cond_false] at hk
         exact ⟨t,e',rfl,rfl,hk⟩
     | ret=>exact hc
     | panic x=>exact hc
   . rename_i a
     exact (hl ⟨a,rfl⟩).elim
   . rename_i id ops
     simp only [bS] at h
     refine bH.region mu h.1 (vy ?_ ?_ _ (B0 hf hy _ _ _ h.2))
     . rintro ez ad ⟨t,e',rfl,rfl,hk⟩
       exact ⟨t,e',rfl,rfl,hk⟩
     . rintro v ad ⟨e',rfl,hk⟩ ez
       exact ⟨e',rfl,hk⟩
   . rename_i id ops
     split at h
     . simp only [bS] at h
       refine bH.tR mu _ _ hV.mixed h.1.1 (by rw [bS]; exact h.1.2) (kg ?_ ?_ _ (pg hV hf hy _ _ _ h.2))
       . rintro ez ad ⟨t,e',rfl,rfl,hk⟩
         exact ⟨t,e',rfl,rfl,hk⟩
       . rintro v ad ⟨e',rfl,hk⟩ ez
         exact ⟨e',rfl,hk⟩
     . rename_i rows dt I post _
       simp only [bS] at h
       have Wx:∀ v U,kA (fun x e=>k (.panic x) .e e) v U->yM (kC k) v U:=by
        rintro v ad ⟨e',rfl,hk⟩ ez
        exact ⟨e',rfl,hk⟩
       refine bH.QR (B:=preB V mu e ops.toList ρ []) (mu:=mu) dt I post hV.mixed h.1 (KG h.2.1) (kg ?_ Wx _ (pg hV hf hy _ _ _ h.2.2))
       rintro ez ad ⟨t,e',rfl,rfl,hk⟩
       obtain ⟨Bw,q1,q2,q3,t2,e2,q4,q5,q6⟩:=Yg t e' hk
       refine ⟨Bw,q1,q2,q3,?_⟩
       have key:=kg (K':=KQ (kC k)) (by
        rintro rR bh ⟨t3,e3,rfl,rfl,hk⟩
        exact ⟨t3,e3,rfl,rfl,hk⟩) Wx _ (pg hV hf hy _ _ _ q6)
       rw [<- q4,<- q5] at key
       exact key
   . rename_i f ps assign body
     split at h
     . rename_i kP first cap hfn
       simp only [bS] at h
       refine bH.rangeFunc tag hfn h.1 fun o ho=>?_
       have:=tY ho
       subst this
       rw [<- sD]
       refine (hf _ _ _ _ h.2).mono ?_
       rintro r U ⟨e',rfl,hk⟩
       cases r with
       | ret v =>
         simp only [HK] at hk
         split at hk
         . rename_i L hL
           simp only [bS,Bool.not_eq_true'] at hk
           refine ⟨L,hL,fun hb=>?_,?_⟩
           . rw [hb] at hk; simp [P4] at hk
           . have gz:=hk.2
             rw [<- Cs]
             split at gz
             . rename_i hp; try rw [hp]
               exact ⟨_,_,rfl,rfl,gz⟩
             . rename_i hp; try rw [hp]
               exact ⟨_,_,rfl,rfl,gz⟩
             . rename_i id hp; try rw [hp]
               exact ⟨_,_,rfl,rfl,gz⟩
             . cases gz
         . cases hk
       | panic x=>exact ⟨e',rfl,hk⟩
     . cases h
   . cases h
theorem aaX (hV:r9 V) (n:Nat):wk V (oZ V n):=by
 induction n using Nat.strongRecOn with
 | _ n ih=>exact TZ hV n ih
theorem aaY {V:jm} (hV:r9 V) (n f:Nat) (args:List AV) (e:ES) (k:KR) (h:tL V (oZ V n) f args e k=true):ae V.C f args (bV e) (kR k):=HB hV (aaX hV n) f args e k h
end
end Go.Rip
namespace Go.Rip
open Go.RowKit
mutual
def closed:AV->Bool
 | .box _ _ | .ms _ _ _ _ _ | .mp _ | .rZ _ | .it _=>false
 | .vec _ (.own _) _=>false
 | .vec _ _ l=>cT l
 | .cQ l=>cT l
 | .ga ks vs=>cT ks && cT vs
 | .func _ a b=>cT a && cT b
 | .iface _ v=>closed v
 | .agg l=>cT l
 | .aH l=>cT l
 | _=>true
def cT:List AV->Bool
 | []=>true
 | x::xs=>closed x && cT xs
end
mutual
theorem ay.closed {g g':Gh} (hi:∀ b o x,g.ct b o=some x->g'.ct b o=some x) (hm:∀ b x,g.bY b=some x->g'.bY b=some x):∀ (x:AV) (v:Value),closed x=true->ay g x v->ay g' x v
 | .bool _,_,_,hr=>hr
 | .int _ _,_,_,hr=>hr
 | .str _,_,_,hr=>hr
 | .aW,_,_,hr=>hr
 | .aq,_,_,hr=>hr
 | .jO,_,_,hr=>hr
 | .dV,_,_,hr=>hr
 | .dq,_,_,hr=>hr
 | .box _ _,_,hc,_=>by cases hc
 | .ms _ _ _ _ _,_,hc,_=>by cases hc
 | .mp _,_,hc,_=>by cases hc
 | .rZ _,_,hc,_=>by cases hc
 | .it _,_,hc,_=>by cases hc
 | .cQ l,_,hc,hr=>by
   simp only [ay] at hr ⊢
   obtain ⟨aF,off,vs,hv,h1,h2⟩:=hr
   exact ⟨aF,off,vs,hv,fun i u hu=>hi _ _ _ (h1 i u hu),aD.closed hi hm l vs hc h2⟩
 | .vec n cap l,_,hc,hr=>by
   simp only [ay] at hr ⊢
   obtain ⟨aF,off,c,vs,hv,h1,h2,h3,h4,h5⟩:=hr
   cases cap with
   | own τ=>cases hc
   | full=>exact ⟨aF,off,c,vs,hv,h1,h2,h3,fun i u hu=>hi _ _ _ (h4 i u hu),aD.closed hi hm l vs hc h5⟩
   | jc=>exact ⟨aF,off,c,vs,hv,h1,h2,trivial,fun i u hu=>hi _ _ _ (h4 i u hu),aD.closed hi hm l vs hc h5⟩
 | .ga ks vs,_,hc,hr=>by
   simp only [ay] at hr ⊢
   simp only [Go.Rip.closed,bS] at hc
   obtain ⟨r,es,c,l,hv,he,hp,hs,h1,h2⟩:=hr
   exact ⟨r,es,c,l,hv,hm _ _ he,hp,hs,aD.closed hi hm ks _ hc.1 h1,aD.closed hi hm vs _ hc.2 h2⟩
 | .func fn first captured,_,hc,hr=>by
   simp only [ay] at hr ⊢
   simp only [Go.Rip.closed,bS] at hc
   obtain ⟨fs,cs,hv,h1,h2⟩:=hr
   exact ⟨fs,cs,hv,aD.closed hi hm first _ hc.1 h1,aD.closed hi hm captured _ hc.2 h2⟩
 | .iface t x,_,hc,hr=>by
   simp only [ay] at hr ⊢
   obtain ⟨u,hv,h1⟩:=hr
   exact ⟨u,hv,ay.closed hi hm x _ hc h1⟩
 | .agg l,_,hc,hr=>by
   simp only [ay] at hr ⊢
   obtain ⟨vs,hv,h0,h1⟩:=hr
   exact ⟨vs,hv,h0,aD.closed hi hm l _ hc h1⟩
 | .aH l,_,hc,hr=>by
   simp only [ay] at hr ⊢
   obtain ⟨vs,hv,h1⟩:=hr
   exact ⟨vs,hv,aD.closed hi hm l _ hc h1⟩
 | .any,_,_,_=>by simp only [ay]
theorem aD.closed {g g':Gh} (hi:∀ b o x,g.ct b o=some x->g'.ct b o=some x) (hm:∀ b x,g.bY b=some x->g'.bY b=some x):∀ (l:List AV) (vs:List Value),cT l=true->aD g l vs->aD g' l vs
 | [],_,_,hr=>by simpa only [aD] using hr
 | x::xs,_,hc,hr=>by
   simp only [aD] at hr ⊢
   simp only [cT,bS] at hc
   obtain ⟨u,us,hv,h1,h2⟩:=hr
   exact ⟨u,us,hv,ay.closed hi hm x _ hc.1 h1,aD.closed hi hm xs _ hc.2 h2⟩
end
def resolve:Nat->St->AV->AV
 | 0,_,_=>.any
 | n+1,U,x=>match x with
   | .box b off=>match U.box b with
     | some l=>.cQ ((l.map (resolve n U)).drop off)
     | none=>.any
   | .ms b off k _ _=>match U.box b with
     | some l=>.vec k .jc ((l.map (resolve n U)).drop off)
     | none=>.any
   | .mp m=>match U.mp m with
     | some (ks,vs)=>.ga ks (vs.map (resolve n U))
     | none=>.any
   | .vec k .full l=>.vec k .full (l.map (resolve n U))
   | .vec k _ l=>.vec k .jc (l.map (resolve n U))
   | .cQ l=>.cQ (l.map (resolve n U))
   | .ga ks vs=>.ga ks (vs.map (resolve n U))
   | .func f a b=>.func f (a.map (resolve n U)) (b.map (resolve n U))
   | .iface t v=>.iface t (resolve n U v)
   | .agg l=>.agg (l.map (resolve n U))
   | .aH l=>.aH (l.map (resolve n U))
   | .rZ _ | .it _=>.any
   | x=>x
noncomputable def Gh.all (g:Gh) (w:World):Gh :=
 { g with
  ct:=fun q o=>if g.base <= q then (match w.cell? ⟨q,o,none⟩ with | some u=>if u.oneCell'=true then some u else none | none=>none) else g.ct q o
  bY:=fun q=>if g.base <= q then (match w.heap[q]? with | some (.map es c)=>if h:(open Classical in decide (lE es c))=true then some (es,c) else none | _=>none) else g.bY q }
theorem KV {g:Gh} {w:World} {q o:Nat} {u:Value} (hq:g.base <= q) (hc:w.cell? ⟨q,o,none⟩=some u) (h1:u.oneCell'=true):(g.all w).ct q o=some u:=by
 show (if _ then _ else _)=_
 rw [if_pos hq,hc]; simp [h1]
theorem Ho {g:Gh} {w:World} {q:Nat} {es:Array MapEntry} {c:Nat} (hq:g.base <= q) (hc:w.heap[q]?=some (.map es c)) (h1:lE es c):(g.all w).bY q=some (es,c):=by
 show (if _ then _ else _)=_
 rw [if_pos hq,hc]; simp [h1]
theorem bo.Dg {g:Gh} {U:St} {w:World} (h:bo g U w):Gh.Le g (g.all w):=by
 refine ⟨rfl,rfl,fun _ _ h=>h,fun b o x hx=>?_,fun b x hx=>?_,fun _ h=>h,fun b o hb=>?_,fun b hb=>?_⟩
 . by_cases hq:g.base <= b
   . exact KV hq (h.ct _ _ _ hx).1 (h.ct _ _ _ hx).2
   . show (if _ then _ else _)=_
     rw [if_neg hq]; exact hx
 . by_cases hq:g.base <= b
   . exact Ho hq (h.bY _ _ _ hx).1 (h.bY _ _ _ hx).2
   . show (if _ then _ else _)=_
     rw [if_neg hq]; exact hx
 . show (if _ then _ else _)=_
   rw [if_neg (by omega)]
 . show (if _ then _ else _)=_
   rw [if_neg (by omega)]
theorem xx {g:Gh} {U:St} {w:World} (h:bo g U w) (q o:Nat) (u:Value) (hu:(g.all w).ct q o=some u):w.cell? ⟨q,o,none⟩=some u/\u.oneCell'=true:=by
 have hu:(if g.base <= q then (match w.cell? ⟨q,o,none⟩ with | some u=>if u.oneCell'=true then some u else none | none=>none) else g.ct q o)=some u:=hu
 split at hu
 . split at hu
   . rename_i x hx
     split at hu
     . cases hu; exact ⟨hx,by assumption⟩
     . cases hu
   . cases hu
 . exact h.ct _ _ _ hu
theorem vN {g:Gh} {U:St} {w:World} (h:bo g U w) (q:Nat) (es:Array MapEntry) (c:Nat) (hu:(g.all w).bY q=some (es,c)):w.heap[q]?=some (.map es c)/\lE es c:=by
 have hu:(if g.base <= q then (match w.heap[q]? with | some (.map es c)=>if h:(open Classical in decide (lE es c))=true then some (es,c) else none | _=>none) else g.bY q)=some (es,c):=hu
 split at hu
 . split at hu
   . rename_i wz c' hx
     split at hu
     . rename_i hb
       cases hu; exact ⟨hx,by simpa using hb⟩
     . cases hu
   . cases hu
 . exact h.bY _ _ _ hu
theorem Ck {g g':Gh} {f:AV->AV}:∀ {l:List AV} {vs:List Value},(∀ x v,x ∈ l->ay g x v->ay g' (f x) v)->aD g l vs->aD g' (l.map f) vs
 | [],_,_,h=>by simpa only [aD,nF] using h
 | x::xs,_,hf,h=>by
   simp only [aD,eh] at h ⊢
   obtain ⟨u,us,hv,h1,h2⟩:=h
   exact ⟨u,us,hv,hf x u (by simp) h1,Ck (fun y v hy=>hf y v (by simp [hy])) h2⟩
theorem BH {g:Gh} {U:St} {w:World} (h:bo g U w):∀ (n:Nat) (x:AV) (v:Value),ay g x v->ay (g.all w) (resolve n U x) v:=by
 intro n
 induction n with
 | zero=>intro x v _; simp only [resolve,ay]
 | succ n ih =>
   intro x v hr
   have hl:=h.Dg
   have uv:∀ {l:List AV} {vs:List Value},aD g l vs->aD (g.all w) (l.map (resolve n U)) vs:=fun h=>Ck (fun y v _ hy=>ih y v hy) h
   have hi:∀ {aF off:Nat} {vs:List Value},mh g aF off vs->mh (g.all w) aF off vs:=fun h=>h.mono hl
   have box:∀ {b off:Nat} {l:List AV} {p:Place},U.box b=some l->g.place b=some p->∃ vs,mh (g.all w) p.aF off vs/\aD (g.all w) ((l.map (resolve n U)).drop off) vs:=fun {b off l p} hb hp=>by
    obtain ⟨x',cur,vs,rest,k1,k2,k3,k4,k5,k6,k7,k8⟩:=h.box b l hb
    have k1:g.place b=some x':=k1
    rw [hp] at k1; cases k1
    refine ⟨vs.drop off,fun i u hu=>?_,(uv k6).drop off⟩
    rw [List.getElem?_drop] at hu
    have aQ:off+i < vs.length:=by
     rcases kO (off+i) vs.length with h | h
     . exact h
     . simp [ym h] at hu
    have hc:cur[off+i]?=some u:=by rw [<- lO,k5,wc aQ]; exact hu
    exact KV k2 (by rw [cell_of_row _ _ _ cur p.e (0,0) k3]; exact hc) (k7 u (gr (by rw [lO]; exact hc)))
   cases x with
   | box b off =>
     simp only [resolve]
     cases hb:U.box b with
     | none=>simp only [ay]
     | some l =>
       simp only [ay] at hr ⊢
       obtain ⟨p,hp,rfl⟩:=hr
       obtain ⟨vs,h1,h2⟩:=box (off:=off) hb hp
       exact ⟨p.aF,off,vs,rfl,h1,h2⟩
   | ms b off k jA e =>
     simp only [resolve]
     cases hb:U.box b with
     | none=>simp only [ay]
     | some l =>
       simp only [ay] at hr ⊢
       obtain ⟨p,c,hp,rfl,q1,q2,_⟩:=hr
       obtain ⟨vs,h1,h2⟩:=box (off:=off) hb hp
       exact ⟨p.aF,off,c,vs,rfl,q1,q2,trivial,h1,h2⟩
   | mp m =>
     simp only [resolve]
     cases hm:U.mp m with
     | none=>simp only [ay]
     | some kv =>
       obtain ⟨ks,vs⟩:=kv
       simp only [ay] at hr ⊢
       obtain ⟨r,hr,rfl⟩:=hr
       obtain ⟨r',es,clock,q1,q2,q3,qb,⟨l,q4,q5,q6,q7⟩,q8⟩:=h.mp m _ hm
       rw [hr] at q1; cases q1
       exact ⟨r,es,clock,l,rfl,Ho q2 q3 qb,q4,q5,q6.mono hl,uv q7⟩
   | vec k c l =>
     simp only [ay] at hr
     obtain ⟨aF,off,c',vs,rfl,h1,h2,h3,h4,h5⟩:=hr
     cases c with
     | full=>simp only [resolve,ay]; exact ⟨aF,off,c',vs,rfl,h1,h2,h3,hi h4,uv h5⟩
     | own τ=>simp only [resolve,ay]; exact ⟨aF,off,c',vs,rfl,h1,h2,trivial,hi h4,uv h5⟩
     | jc=>simp only [resolve,ay]; exact ⟨aF,off,c',vs,rfl,h1,h2,trivial,hi h4,uv h5⟩
   | cQ l =>
     simp only [resolve,ay] at hr ⊢
     obtain ⟨aF,off,vs,rfl,h1,h2⟩:=hr
     exact ⟨aF,off,vs,rfl,hi h1,uv h2⟩
   | ga ks vs =>
     simp only [resolve,ay] at hr ⊢
     obtain ⟨r,es,c,l,rfl,he,hp,hs,h1,h2⟩:=hr
     exact ⟨r,es,c,l,rfl,hl.bY _ _ he,hp,hs,h1.mono hl,uv h2⟩
   | func f a b =>
     simp only [resolve,ay] at hr ⊢
     obtain ⟨fs,cs,rfl,h1,h2⟩:=hr
     exact ⟨fs,cs,rfl,uv h1,uv h2⟩
   | iface t x =>
     simp only [resolve,ay] at hr ⊢
     obtain ⟨u,rfl,h1⟩:=hr
     exact ⟨u,rfl,ih _ _ h1⟩
   | agg l =>
     simp only [resolve,ay] at hr ⊢
     obtain ⟨vs,rfl,h0,h1⟩:=hr
     exact ⟨vs,rfl,h0,uv h1⟩
   | aH l =>
     simp only [resolve,ay] at hr ⊢
     obtain ⟨vs,rfl,h1⟩:=hr
     exact ⟨vs,rfl,uv h1⟩
   | rZ o=>simp only [resolve,ay]
   | it o=>simp only [resolve,ay]
   | any=>simp only [resolve,ay]
   | bool b=>simp only [resolve]; exact hr.mono hl
   | int k n=>simp only [resolve]; exact hr.mono hl
   | str s=>simp only [resolve]; exact hr.mono hl
   | aW=>simp only [resolve]; exact hr.mono hl
   | aq=>simp only [resolve]; exact hr.mono hl
   | jO=>simp only [resolve]; exact hr.mono hl
   | dV=>simp only [resolve]; exact hr.mono hl
   | dq=>simp only [resolve]; exact hr.mono hl
theorem Pure.AN {C:cS} {f:Nat} {args:List AV} {x:AV} (C0:∀ i,closed (C.zn i)=true) (hargs:cT args=true) (hx:closed x=true) (d:Nat)
 (h:ae C f args (bV ⟨.e,0⟩) (fun r U=>∃ v,r=.ret v/\resolve d U v=x)):Pure C f args x:=by
 intro U R hR g w vs hs hG ha
 let g0:Gh:={ base:=w.heap.size,w0:=w,place:=fun _=>none,ct:=g.ct,bY:=g.bY,res:=fun _=>false }
 have wP:bo g0 (bV ⟨.e,0⟩) w:={
  below:=Below.refl _ _
  le:=bT _
  ct:=hs.ct
  bY:=hs.bY
  live:=fun b x hb=>by cases hb
  apart:=fun b b' x x' p p' hb=>by cases hb
  res:=fun r hr=>by cases hr
  fin:=⟨0,fun n hn=>by cases hn; rfl,fun _ _=>rfl⟩ }
 have Pp:iU C g0:=⟨fun i=>ay.closed (g:=g) (g':=g0) (fun _ _ _ h=>h) (fun _ _ h=>h) _ _ (C0 i) (hG.1 i),fun i cs hi=>by
  obtain ⟨k1,t,fr,k2⟩:=hG.2 i cs hi
  refine ⟨Nat.lt_of_lt_of_le k1 hs.le,t,fr,?_⟩
  show w.heap[i]?=_
  rw [hs.below.block i k1]; exact k2⟩
 have Pu:aD g0 args vs:=aD.closed (g:=g) (g':=g0) (fun _ _ _ h=>h) (fun _ _ h=>h) _ _ hargs ha
 refine (h g0 w vs wP Pp Pu).mono ?_
 rintro e w' hp
 cases e with
 | panicked ch=>obtain ⟨g',ad,y,v,_,_,_,_,z,hz,_⟩:=hp; cases hz
 | outgrown=>exact hp.elim
 | returned v =>
   obtain ⟨g',ad,y,h1,h2,h3,z,hz,hres⟩:=hp
   cases hz
   have cm:=BH h2 d y v h3
   rw [hres] at cm
   have uu:=h2.Dg
   have hle:=h1.trans uu
   have agL:g'.base=w.heap.size:=h1.base
   have xJ:Below w.heap.size w w':=by
    have:=h2.below
    rw [h1.base,h1.w0] at this
    exact this
   let gF:Gh:={ base:=g.base,w0:=g.w0,place:=g.place,ct:=(g'.all w').ct,bY:=(g'.all w').bY,res:=g.res }
   have Io:Gh.Le g gF:=⟨rfl,rfl,fun _ _ h=>h,fun b o u hu=>hle.ct b o u hu,fun b u hu=>hle.bY b u hu,fun _ h=>h,
    fun b o hb=>hle.zD b o (by show b < w.heap.size; have:=hs.le; omega),fun b hb=>hle.wS b (by show b < w.heap.size; have:=hs.le; omega)⟩
   refine ⟨gF,U,x,Io,?_,ay.closed (g:=g'.all w') (g':=gF) (fun _ _ _ h=>h) (fun _ _ h=>h) x v hx cm,hR⟩
   exact {
    below:=hs.below.trans (xJ.mono hs.le)
    le:=Nat.le_trans hs.le xJ.size
    ct:=fun q o u hu=>xx h2 q o u hu
    bY:=fun q es c hu=>vN h2 q es c hu
    live:=fun b l hb=>by
     obtain ⟨p,k1,k2,k3⟩:=hs.live b l hb
     have aQ:=k3.lt
     exact ⟨p,k1,k2,k3.frame Io.r (xJ.block _ aQ) (fun o=>hle.zD _ o aQ) (hle.wS _ aQ)⟩
    apart:=hs.apart
    res:=fun r hr=>by
     obtain ⟨k1,k2⟩:=hs.res r hr
     exact ⟨k1,by rw [xJ.block _ (lN.1 k2).1]; exact k2⟩
    fin:=hs.fin }
def aea (d:Nat) (x:AV):KR
 | .ret v,e=>jT (resolve d (bV e) v) x
 | .panic _,_=>false
theorem Pure.fP {V:jm} (hV:r9 V) (n d:Nat) {f:Nat} {args:List AV} {x:AV} (C0:∀ i,closed (V.C.zn i)=true) (h:(cT args && closed x && tL V (oZ V n) f args ⟨.e,0⟩ (aea d x))=true):Pure V.C f args x:=by
 simp only [bS] at h
 refine Pure.AN C0 h.1.1 h.1.2 d ((aaY hV n f args ⟨.e,0⟩ _ h.2).mono ?_)
 rintro r U ⟨e,rfl,hk⟩
 cases r with
 | ret v=>exact ⟨v,rfl,wy hk⟩
 | panic v=>cases hk
end Go.Rip
namespace Go.Rip
open Go.RowKit
def Wg (R:St->Prop):Ex->Env->St->Prop
 | .normal,_,U=>R U
 | .ret,_,U=>R U
 | _,_,_=>False
theorem Y2 {C:cS} {f:FuncId} {fn:Func} {id:Nat} {o:Oper} {d:Nat} {rest:Code} {args:List AV} {U:St} {g:Gh} {w:World} {vs:List Value}
 (hf:C.P.funcs[f]?=some fn) (hb:fn.body=some (.seq (.region id #[o] false) rest)) (hres:fn.results=#[]) (hop:∀ ev w,(execOp ev o).run C.P w=.ok .recover w) (hd:o.dst=some d) (hdn:d < fn.ntmps) (hg:o.guard=none)
 (hlen:args.length <= fn.ntmps) (hs:bo g U w) (hG:iU C g) (ha:aD g args vs) {x:AV} {v:Value} {u u':FrameMode} (hx:ay g x v)
 (hu:(u=.returning/\v=.nilIface/\u'=.returning)\/(u=.panicking [{ v,recovered:=false }]/\u'=.panicking [{ v,recovered:=true }])) (R:St->Prop)
 (h:bH C fn.ntmps .bare rest (Wg R) ((Env.km args).put d x) U) :
 CallsDIn Fence.wide 0 C.P f vs.toArray u w (fun e u2 w'=>∃ v',e=.returned v'/\u2=u'/\∃ g' ad,Gh.Le g g'/\bo g' ad w'/\R ad):=by
 refine callsDIn_of_wpSIn hf hb trivial fun HE cs hm=>?_
 refine wpSIn_seq (wpSIn_region ?_)
 have hl:=ha.length
 have fh:(vs.toArray++Array.replicate (fn.ntmps - vs.toArray.size) undef).size=fn.ntmps:=by simp; omega
 have El:ia g (Env.km args) (vs.toArray++Array.replicate (fn.ntmps - vs.toArray.size) undef):=BV args vs _ ha
 have afA:=El.put (d:=d) (by rw [fh]; exact hdn) hx
 have after:∀ CL,(CL={ HE with mode:=u' }::cs)->rest.wpSIn Fence.wide 0 C.P (bodyPostS C.P fn HE cs fun e u2 w'=>∃ v',e=.returned v'/\u2=u'/\∃ g' ad,Gh.Le g g'/\bo g' ad w'/\R ad)
  (Act.put { tmps:=vs.toArray++Array.replicate (fn.ntmps - vs.toArray.size) undef,defers:=[] } o.dst v) CL w:=fun CL wK=>by
  refine wpSIn_of_wpIn rfl ?_
  have:=h g w (Act.put { tmps:=vs.toArray++Array.replicate (fn.ntmps - vs.toArray.size) undef,defers:=[] } o.dst v) none hs hG (by rw [hd]; exact afA) (by rw [(pn _ _ _).2]; exact fh) trivial
  refine wpIn_mono this ?_
  rintro e a w' ⟨q1,g',ad,ez,ms,q2,q3,q4,q5,q6,q7⟩
  have zy:ms=[]:=q3.none rfl
  subst zy
  rw [(pn _ _ _).1] at q2
  simp only [nF,jY] at q2
  have hr:∀ tmps,(results fn tmps).run C.P w'=.ok (.tuple #[]) w':=fun tmps=>by
   unfold results
   rw [hres]
   simp
  cases e with
  | normal=>exact ⟨q2,u',wK,_,hr _,_,rfl,rfl,g',ad,q4,q5,q7⟩
  | ret=>exact ⟨q2,u',wK,_,hr _,_,rfl,rfl,g',ad,q4,q5,q7⟩
  | exit id=>exact q7.elim
  | panic ch=>obtain ⟨_,_,_,_,hf⟩:=q7; exact hf.elim
  | goto l=>exact q7.elim
  | outgrown=>exact q7.elim
 have hw:Region.wanted o (yielded #[o] (vs.toArray++Array.replicate (fn.ntmps - vs.toArray.size) undef))=true:=by simp [Region.wanted,hg]
 show wpOpsSIn Fence.wide 0 C.P #[o] _ [0] _ _ _
 simp only [wpOpsSIn,List.getElem?_toArray,List.getElem?_cons_zero,hw,if_true,hop]
 refine ⟨fun _ _=>trivial,?_⟩
 rcases hu with ⟨rfl,rfl,rfl⟩ | ⟨rfl,rfl⟩
 . have e1:recoverD (HE::cs)=none:=by simp [recoverD,hm]
   rw [e1]
   exact after _ (by rw [<- hm])
 . have e1:recoverD (HE::cs)=some (v,{ HE with mode:=.panicking [{ v,recovered:=true }] }::cs):=by simp [recoverD,hm]
   rw [e1]
   exact after _ rfl
end Go.Rip
