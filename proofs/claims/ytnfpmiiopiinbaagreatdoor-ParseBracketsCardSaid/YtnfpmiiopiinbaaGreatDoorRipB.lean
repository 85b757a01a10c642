/- Lemmas for the proof: no conditions. -/
import Derived.Test.YtnfpmiiopiinbaaGreatDoorRipZz
import Derived.Test.YtnfpmiiopiinbaaGreatDoorRipA
import Derived.OrdersIn
import Derived.RecoverIn
set_option linter.unusedVariables false
set_option linter.unusedSimpArgs false
set_option linter.loopingSimpArgs false
namespace Go.Rip
open Go.RowKit
inductive cV where
 | ret (x:AV)
 | panic (x:AV)
inductive Ex where
 | normal
 | exit (id:Nat)
 | ret
 | panic (x:AV)
def FW (ro:Option Nat):Fence:={ Fence.wide with round:=ro }
def qz (g:Gh) (R:cV->St->Prop):Ending->World->Prop
 | .returned v,w'=>∃ g' ad x,Gh.Le g g'/\bw g' ad w'/\aA g' x v/\R (.ret x) ad
 | .panicked ch,w'=>∃ g' ad x v,ch=[{ v,recovered:=false }]/\Gh.Le g g'/\bw g' ad w'/\aA g' x v/\R (.panic x) ad
 | .outgrown,_=>False
def ae (C:de) (f:FuncId) (args:List AV) (U:St) (R:cV->St->Prop):Prop :=
 ∀ g w vs,bw g U w->jx C g->aH g args vs->CallsIn Fence.wide 0 C.P f (List.toArray vs) w (qz g R)
def n7 (C:de) (o:Nat) (args:List AV) (U:St) (R:cV->St->Prop):Prop :=
 ∀ g w vs x,bw g U w->jx C g->aH g args vs->g.place o=some x->∃ fn tmps assign body,(Instr.yield x.aL (List.toArray vs)).run C.P w=.ok (.round x.aL fn tmps assign body) w /\
  RoundIn Fence.wide 0 C.P x.aL fn tmps assign body w (qz g R)
theorem qz.mono {g:Gh} {R R':cV->St->Prop} {e:Ending} {w:World} (h:qz g R e w) (hr:∀ r U,R r U->R' r U):qz g R' e w:=by
 cases e with
 | returned v=>obtain⟨g',ad,x,h1,h2,h3,h4⟩:=h; exact⟨g',ad,x,h1,h2,h3,hr _ _ h4⟩
 | panicked ch=>obtain⟨g',ad,x,v,h0,h1,h2,h3,h4⟩:=h; exact⟨g',ad,x,v,h0,h1,h2,h3,hr _ _ h4⟩
 | outgrown=>exact h
theorem ae.mono {C:de} {f:FuncId} {args:List AV} {U:St} {R R':cV->St->Prop} (h:ae C f args U R) (hr:∀ r U,R r U->R' r U):ae C f args U R' :=
 λ g w vs hs hG ha=>(h g w vs hs hG ha).mono λ _ _ hp=>hp.mono hr
theorem n7.mono {C:de} {f:Nat} {args:List AV} {U:St} {R R':cV->St->Prop} (h:n7 C f args U R) (hr:∀ r U,R r U->R' r U):n7 C f args U R' :=
 λ g w vs x hs hG ha hx=>let ⟨a,b,c,d,e,r⟩:=h g w vs x hs hG ha hx; ⟨a,b,c,d,e,r.mono λ _ _ hp=>hp.mono hr⟩
def ah (K:AV->St->Prop) (Kp:AV->St->Prop):cV->St->Prop
 | .ret x,U=>K x U
 | .panic x,U=>Kp x U
def aC.wp (C:de) (U:St) (K:AV->St->Prop) (Kp:AV->St->Prop):aC->Prop
 | .val v=>K v U
 | .jG v b x=>K v (U.set b x)
 | .new k del x=>∀ b,(U.so del).dL b->K (k.at b) ((U.so del).new b x)
 | .nf b l=>∀ p∈l,K p.1 (U.set b p.2)
 | .enter f args=>ae C f args U (ah K Kp)
 | .yield l args=>n7 C l args U (ah K Kp)
 | .panic v=>Kp v U
 | @aC.cond p _ r=>p/\r.wp C U K Kp
 | .bad=>False
def jm (ops:Array Oper) (ρ:Env):Option (Nat×Bool)->AV
 | none=>.bool true
 | some (j,want)=>match (ops[j]?).bind (·.dst) with
   | some d=>match ρ.get d with
     | .bool b=>.bool (b==want)
     | .aK []=>.bool false
     | _=>.any
   | none=>.any
def ax:AV->Prop->Prop->Prop
 | .bool b,A,B=>(b=true->A)/\(b=false->B)
 | _,_,_=>False
def qL (C:de) (mu:List Nat) (ops:Array Oper):List Oper->Env->St->(Env->St->Prop)->(AV->St->Prop)->Prop
 | [],ρ,U,K,_=>K ρ U
 | o::rest,ρ,U,K,Kp=>ax (jm ops ρ o.guard)
    ((kY C (match o.dst with|some d=>mu.contains d|none=>false) o.op ρ U).wp C U (λ v ad=>qL C mu ops rest (ρ.fj o.dst v) ad K Kp) Kp)
    (qL C mu ops rest (ρ.fj o.dst (.aK [])) U K Kp)
def Jl (r:Nat):Deferred:={ target:=.collected r,args:=#[] }
def J6 (g:Gh) (Q:Ex->Env->St->Prop) (ρ:Env) (U:St):Exit->Prop
 | .normal=>Q .normal ρ U
 | .exit id=>Q (.exit id) ρ U
 | .ret=>Q .ret ρ U
 | .panic ch=>∃ x v,ch=[{ v,recovered:=false }]/\aA g x v/\Q (.panic x) ρ U
 | .goto _=>False
 | .outgrown=>False
inductive Ro where
 | fn
 | bare
 | round (o:Nat)
def Ro.nm:Ro->Bool
 | .bare=>true
 | _=>false
structure qq (nm:Bool) (g g':Gh) (ms:List Nat):Prop where
 none:nm=true->ms=[]
 nodup:ms.Nodup
 res:∀ r∈ms,g'.res r=true/\g.res r=false
theorem nK (nm:Bool) (g g':Gh):qq nm g g' []:=⟨λ _=>rfl,List.nodup_nil,by simp⟩
theorem qq.append {nm:Bool} {g g1 g2:Gh} {m1 m2:List Nat} (h1:qq nm g g1 m1) (h2:qq nm g1 g2 m2) (l1:Gh.Le g g1) (l2:Gh.Le g1 g2):qq nm g g2 (m2++m1):=by
 refine⟨λ h=>by rw[h1.none h,h2.none h]; rfl,List.nodup_append.2 ⟨h2.nodup,h1.nodup,λ x hx y hy e=>?_⟩,λ r hr=>?_⟩
 . subst e;have:=(h2.res x hx).2;rw[(h1.res x hy).1]at this; cases this
 . simp only[fT]at hr;rcases hr with hr|hr
   . refine⟨(h2.res r hr).1,?_⟩;cases e:g.res r with
     | false=>rfl
     | true=>have:=(h2.res r hr).2; rw[l1.res _ e]at this; cases this
   . exact⟨l2.res _ (h1.res r hr).1,(h1.res r hr).2⟩
def sL (g:Gh) (nt:Nat) (nm:Bool) (ds:List Deferred) (Q:Ex->Env->St->Prop) (e:Exit) (a:Act) (w:World):Prop :=
 a.tmps.size=nt/\∃ g' U ρ ms,a.defers=ms.map Jl++ds/\qq nm g g' ms/\Gh.Le g g'/\bw g' U w/\iQ g' ρ a.tmps/\J6 g' Q ρ U e
def JB (g:Gh):Ro->Option Nat->Prop
 | .fn,none=>True
 | .bare,none=>True
 | .round o,some l=>∃ x,g.place o=some x/\x.aL=l
 | _,_=>False
theorem JB.mono {g g':Gh} (h:Gh.Le g g') {ro:Ro} {fr:Option Nat} (hr:JB g ro fr):JB g' ro fr:=by
 cases ro<;>cases fr<;>simp only[JB]at hr ⊢
 obtain⟨x,h1,h2⟩:=hr;exact⟨x,h.place _ _ h1,h2⟩
def bL (C:de) (nt:Nat) (ro:Ro) (c:Code) (Q:Ex->Env->St->Prop) (ρ:Env) (U:St):Prop :=
 ∀ g w a fr,bw g U w->jx C g->iQ g ρ a.tmps->a.tmps.size=nt->JB g ro fr->c.wpIn (FW fr) 0 C.P (sL g nt ro.nm a.defers Q) a w
section
variable {C:de} {g:Gh} {U:St} {w:World} {nt:Nat} {nm:Bool} {ro:Ro} {Q:Ex->Env->St->Prop} {ρ:Env}
theorem J6.mono {Q':Ex->Env->St->Prop} {e:Exit} (h:J6 g Q ρ U e) (hq:∀ e ρ U,Q e ρ U->Q' e ρ U):J6 g Q' ρ U e:=by
 cases e<;>first
  | exact hq _ _ _ h
  | (obtain⟨x,v,h1,h2,h3⟩:=h; exact⟨x,v,h1,h2,hq _ _ _ h3⟩)
  | exact h
theorem bL.mono {c:Code} {Q':Ex->Env->St->Prop} (h:bL C nt ro c Q ρ U) (hq:∀ e ρ U,Q e ρ U->Q' e ρ U):bL C nt ro c Q' ρ U :=
 λ g w a fr h1 h2 h3 h4 z8=>wpIn_mono (h g w a fr h1 h2 h3 h4 z8) λ e a' w' ⟨k1,g',ad,eP,ms,k2,k3,k4,k5,k6,k7⟩=>⟨k1,g',ad,eP,ms,k2,k3,k4,k5,k6,k7.mono hq⟩
theorem sL.back {g':Gh} {ds:List Deferred} {ms:List Nat} {e:Exit} {a:Act} (h:sL g' nt nm (ms.map Jl++ds) Q e a w) (AZ:qq nm g g' ms) (hle:Gh.Le g g'):sL g nt nm ds Q e a w:=by
 obtain⟨k1,g2,ad,eP,Li,k2,k3,k4,k5,k6,k7⟩:=h;exact⟨k1,g2,ad,eP,Li++ms,by rw[k2,List.map_append,dc],AZ.append k3 hle k4,hle.trans k4,k5,k6,k7⟩
def afi (K:Env->St->Prop) (Q:Ex->Env->St->Prop):Ex->Env->St->Prop
 | .normal,ρ,U=>K ρ U
 | e,ρ,U=>Q e ρ U
theorem bL.seq {x y:Code} (h:bL C nt ro x (afi (λ ρ U=>bL C nt ro y Q ρ U) Q) ρ U):bL C nt ro (.seq x y) Q ρ U:=by
 intro g w a fr h1 h2 h3 h4 z8;refine wpIn_seq (wpIn_mono (h g w a fr h1 h2 h3 h4 z8) ?_);rintro e a' w' ⟨k1,g',ad,eP,ms,k2,k3,k4,k5,k6,k7⟩;cases e with
 | normal =>
   have:=k7 g' w' a' fr k5 (h2.mono k4) k6 k1 (z8.mono k4);rw[k2]at this;exact wpIn_mono this λ e a w hp=>hp.back k3 k4
 | exit id=>exact⟨k1,g',ad,eP,ms,k2,k3,k4,k5,k6,k7⟩
 | ret=>exact⟨k1,g',ad,eP,ms,k2,k3,k4,k5,k6,k7⟩
 | panic ch=>exact⟨k1,g',ad,eP,ms,k2,k3,k4,k5,k6,k7⟩
 | goto l=>exact k7.elim
 | outgrown=>exact k7.elim
theorem Bt {a:Act} {ds:List Deferred} {e:Exit} (h:bw g U w) (hr:iQ g ρ a.tmps) (hn:a.tmps.size=nt) (hd:a.defers=ds) (hq:J6 g Q ρ U e):sL g nt nm ds Q e a w :=
 ⟨hn,g,U,ρ,[],by simpa using hd,nK _ _ _,Gh.Le.refl g,h,hr,hq⟩
theorem bL.skip (h:Q .normal ρ U):bL C nt ro .skip Q ρ U:=λ g w a fr h1 h2 h3 h4 _=>wpIn_skip (Bt h1 h3 h4 rfl h)
theorem bL.exit {id:Nat} (h:Q (.exit id) ρ U):bL C nt ro (.exit id) Q ρ U:=λ g w a fr h1 h2 h3 h4 _=>wpIn_exit (Bt h1 h3 h4 rfl h)
theorem bL.ret (h:Q .ret ρ U):bL C nt ro .ret Q ρ U:=λ g w a fr h1 h2 h3 h4 _=>wpIn_ret (Bt h1 h3 h4 rfl h)
theorem bL.cond {c:Operand} {x y:Code} {b:Bool} (hc:ρ.ev C c=.bool b) (h1:b=true->bL C nt ro x Q ρ U) (h2:b=false->bL C nt ro y Q ρ U):bL C nt ro (.cond c x y) Q ρ U:=by
 intro g w a fr k1 k2 k3 k4 k5;have:=vB k2 k3 c;rw[hc]at this;simp only[aA]at this;exact wpIn_cond_split this (λ e=>h1 e g w a fr k1 k2 k3 k4 k5) (λ e=>h2 e g w a fr k1 k2 k3 k4 k5)
theorem bL.agR {c:Operand} {x y:Code} (hc:ρ.ev C c=.bool true) (h1:bL C nt ro x Q ρ U):bL C nt ro (.cond c x y) Q ρ U:=bL.cond hc (λ _=>h1) (λ h=>by cases h)
theorem bL.agQ {c:Operand} {x y:Code} (hc:ρ.ev C c=.bool false) (h1:bL C nt ro y Q ρ U):bL C nt ro (.cond c x y) Q ρ U:=bL.cond hc (λ h=>by cases h) (λ _=>h1)
def Ax (id:Nat) (Q:Ex->Env->St->Prop):Ex->Env->St->Prop
 | .exit C2,ρ,U=>if C2=id then Q .normal ρ U else Q (.exit C2) ρ U
 | e,ρ,U=>Q e ρ U
theorem bL.block {id:Nat} {c:Code} (h:bL C nt ro c (Ax id Q) ρ U):bL C nt ro (.block id c) Q ρ U:=by
 intro g w a fr h1 h2 h3 h4 z8;refine wpIn_block (wpIn_mono (h g w a fr h1 h2 h3 h4 z8) ?_);rintro e a' w' ⟨k1,g',ad,eP,ms,k2,k3,k4,k5,k6,k7⟩;cases e with
 | normal=>exact⟨k1,g',ad,eP,ms,k2,k3,k4,k5,k6,k7⟩
 | exit C2 =>
   have k7:Ax id Q (.exit C2) eP ad:=k7;simp only[Ax]at k7;simp only[Exit.inBlock];split
   . rename_i e; rw[if_pos e]at k7; exact⟨k1,g',ad,eP,ms,k2,k3,k4,k5,k6,k7⟩
   . rename_i e; rw[if_neg e]at k7; exact⟨k1,g',ad,eP,ms,k2,k3,k4,k5,k6,k7⟩
 | ret=>exact⟨k1,g',ad,eP,ms,k2,k3,k4,k5,k6,k7⟩
 | panic ch=>exact⟨k1,g',ad,eP,ms,k2,k3,k4,k5,k6,k7⟩
 | goto l=>exact k7.elim
 | outgrown=>exact k7.elim
theorem bL.loop {c:Code} (I:Nat->Env->St->Prop) {n:Nat} (h0:I n ρ U) (round:∀ n ρ U,I n ρ U->bL C nt ro c (afi (λ eP ad=>∃ m,m<n/\I m eP ad) Q) ρ U):bL C nt ro (.loop c) Q ρ U:=by
 intro g w a fr h1 h2 h3 h4 z8;let J:Nat->Act->World->Prop:=λ n a' w'=>a'.tmps.size=nt/\∃ g' ad eP ms,a'.defers=ms.map Jl++a.defers/\qq ro.nm g g' ms/\Gh.Le g g'/\bw g' ad w'/\iQ g' eP a'.tmps/\I n eP ad;have ex:∀ a' w',(∃ n,J n a' w')->∃ n,J n a' w'/\∀ m,m<n->¬ J m a' w':=λ a' w' ⟨n,hn⟩=>by
  induction n using Nat.strongRecOn with
  | _ n ih =>
    by_cases hm:∃ m,m<n/\J m a' w'
    . obtain⟨m,N6,ZE⟩:=hm; exact ih m N6 ZE
    . exact⟨n,hn,λ m N6 ZE=>hm ⟨m,N6,ZE⟩⟩
 classical
 let μ:Act->World->Nat:=λ a' w'=>if h:∃ n,J n a' w' then (ex a' w' h).choose else 0
 have hμ:∀ a' w',(∃ n,J n a' w')->J (μ a' w') a' w'/\∀ m,m<μ a' w'->¬ J m a' w':=λ a' w' h=>by
  have:=(ex a' w' h).choose_spec;simp only[μ,dif_pos h]; exact this
 refine wpIn_loop (λ a' w'=>∃ n,J n a' w') μ ⟨n,h4,g,U,ρ,[],by simp,nK _ _ _,Gh.Le.refl g,h1,h3,h0⟩ ?_;intro a' w' hJ;obtain⟨⟨k1,g',ad,eP,ms,k2,k3,k4,k5,k6,k7⟩,_⟩:=hμ a' w' hJ;refine wpIn_mono (round _ eP ad k7 g' w' a' fr k5 (h2.mono k4) k6 k1 (z8.mono k4)) ?_;intro e a2 w2 hp;rw[k2]at hp;have hp:=hp.back k3 k4;obtain⟨q1,g2,bf,s0,Li,q2,q3,q4,q5,q6,q7⟩:=hp;cases e with
 | normal =>
   obtain⟨m,hm,hI⟩:=q7;have hJ2:J m a2 w2:=⟨q1,g2,bf,s0,Li,q2,q3,q4,q5,q6,hI⟩;refine⟨⟨m,hJ2⟩,?_⟩;have:=(hμ a2 w2 ⟨m,hJ2⟩).2;rcases kI (μ a2 w2) (μ a' w') with h|h
   . exact h
   . exact absurd hJ2 (this m (by omega))
 | exit id=>exact⟨q1,g2,bf,s0,Li,q2,q3,q4,q5,q6,q7⟩
 | ret=>exact⟨q1,g2,bf,s0,Li,q2,q3,q4,q5,q6,q7⟩
 | panic ch=>exact⟨q1,g2,bf,s0,Li,q2,q3,q4,q5,q6,q7⟩
 | goto l=>exact q7.elim
 | outgrown=>exact q7.elim
end
end Go.Rip
namespace Go.Rip
open Go.RowKit
section
variable {C:de} {g:Gh} {U:St} {w:World} {nt:Nat} {nm:Bool} {ro:Ro} {fr:Option Nat} {Q:Ex->Env->St->Prop} {ρ:Env}
def DK (nt:Nat) (o:Oper):Bool :=
 (match o.dst with|some d=>decide (d<nt)|none=>true)&&(match o.op with|.defer _=>false|_=>true)
def mP (nt:Nat) (ops:Array Oper):Bool:=ops.toList.all (DK nt)
theorem CO {ops:Array Oper} {a:Act} (hr:iQ g ρ a.tmps) {o:Oper} {b:Bool} (h:jm ops ρ o.guard=.bool b):Region.wanted o (yielded ops a.tmps)=b:=by
 unfold jm at h;unfold Region.wanted;cases hg:o.guard with
 | none=>simp[hg]at h; simp[h]
 | some jw =>
   obtain⟨j,want⟩:=jw;simp only[hg]at h ⊢;split at h
   . rename_i d hd;split at h
     . rename_i b' hb;simp only[AV.bool.injEq]at h;subst h;have:=hr d;rw[hb]at this;simp only[aA]at this;have uC:a.tmps[d]?=some (.bool b'):=by
        rw[Array.getD_eq_getD_getElem?]at this;cases ht:a.tmps[d]? with
        | none=>rw[ht]at this; simp[undef]at this
        | some v=>rw[ht]at this; simp at this; rw[this]
       unfold yielded;rw[hd];simp only[Option.bind_some,uC];cases b'<;>cases want<;>rfl
     . rename_i hb;simp only[AV.bool.injEq]at h;subst h;have:=hr d;rw[hb]at this;simp only[aA,aH]at this;obtain⟨vs,this,rfl⟩:=this;have uC:∀ b,a.tmps[d]?≠some (.bool b):=λ b eY=>by
        rw[Array.getD_eq_getD_getElem?,eY]at this;simp at this
       unfold yielded;rw[hd];simp only[Option.bind_some]
       first
        | rfl
        | (split
           . rename_i b' eY; exact absurd eY (uC _)
           . rfl)
     . cases h
   . cases h
theorem qe (a:Act) (dst:Option Tmp) (v:Value):(a.put dst v).defers=a.defers/\(a.put dst v).tmps.size=a.tmps.size:=by
 cases dst<;>simp[Act.put]
theorem iQ.fj {a:Act} (hr:iQ g ρ a.tmps) {dst:Option Tmp} {x:AV} {v:Value} (hd:∀ d,dst=some d->d<a.tmps.size) (hx:aA g x v):iQ g (ρ.fj dst x) (a.put dst v).tmps:=by
 cases dst with
 | none=>exact hr
 | some d=>exact hr.put (hd d rfl) hx
theorem wU:aA g (.aK []) undef:=by simp only[aA]; exact⟨[],rfl,by simp[aH]⟩
def KQ (Q:Ex->Env->St->Prop):Env->St->Prop:=λ ρ U=>Q .normal ρ U
def zV (Q:Ex->Env->St->Prop):AV->St->Prop:=λ x U=>∀ ρ,Q (.panic x) ρ U
theorem rJ {o:Oper} (cS:DK nt o=true) {mu:Bool} {K:AV->St->Prop} {Kp:AV->St->Prop} {ds:List Deferred} {next:Act->World->Prop} {a:Act}
 (hs:bw g U w) (hG:jx C g) (hr:iQ g ρ a.tmps) (hn:a.tmps.size=nt)
 (h:(kY C mu o.op ρ U).wp C U K Kp)
 (qv:∀ g' ad w' x v,Gh.Le g g'->bw g' ad w'->aA g' x v->K x ad->next (a.put o.dst v) w')
 {QQ:Exit->Act->World->Prop} (KH:∀ g' ad w' x v,Gh.Le g g'->bw g' ad w'->aA g' x v->Kp x ad->QQ (.panic [{ v,recovered:=false }]) a w') :
 o.wpIn (FW fr) 0 C.P a w next QQ:=by
 refine⟨λ _ _=>trivial,?_⟩;have Ko:∀ c,o.op≠.defer c:=λ c e=>by simp[DK,e]at cS
 rw[Oper.semAt_eq _ _ _ Ko];have fits:=XS (C:=C) hs hG hr mu o;generalize hres:(execOp a.eval o).run C.P w=res at fits ⊢;generalize kY C mu o.op ρ U=r at fits h;have val:∀ {x ad},(∃ u w' g',(res=.ok (.value u) w'\/(res=.ok .skip w'/\u=undef))/\Gh.Le g g'/\bw g' ad w'/\aA g' x u)->K x ad->o.uponIn (FW fr) 0 C.P a next QQ res:=by
  rintro x ad ⟨u,w',g',hu,hle,fp,hx⟩ hk;rcases hu with rfl|⟨rfl,rfl⟩
  . exact qv g' ad w' x u hle fp hx hk
  . exact qv g' ad w' x undef hle fp hx hk
 induction r with
 | val v=>exact val fits h
 | jG v b x=>exact val fits h
 | new k del x=>obtain⟨u,w',g',b,rfl,hb,hle,fp,hx⟩:=fits; exact qv g' _ w' _ u hle fp hx (h b hb)
 | nf b l=>obtain⟨u,w',g',v,x,rfl,hm,hle,fp,hx⟩:=fits; exact qv g' _ w' _ u hle fp hx (h (v,x) hm)
 | enter f args =>
   obtain⟨vs,w',rfl,fp,ha⟩:=fits;refine⟨λ hd=>by simp[FW,Fence.wide]at hd,?_⟩;have hc:CallsIn (FW fr) 0 C.P f (List.toArray vs) w' (qz g (ah K Kp)):=h g w' vs fp hG ha;refine hc.mono ?_;rintro e w2 hp;cases e with
   | returned v=>obtain⟨g',ad,x,h1,h2,h3,h4⟩:=hp; exact qv g' ad w2 x v h1 h2 h3 h4
   | panicked ch=>obtain⟨g',ad,x,v,rfl,h1,h2,h3,h4⟩:=hp; exact KH g' ad w2 x v h1 h2 h3 h4
   | outgrown=>exact hp.elim
 | yield l args =>
   obtain⟨vs,x,w0,w',hx,rfl,rfl,fp,ha⟩:=fits;obtain⟨fn,tmps,assign,body,hy,hR⟩:=h g w' vs x fp hG ha hx;rw[hy];refine⟨λ hd=>by simp[FW,Fence.wide]at hd,?_⟩;have hc:RoundIn (FW fr) 0 C.P x.aL fn tmps assign body w' (qz g (ah K Kp)):=hR;refine hc.mono ?_;rintro e w2 hp;cases e with
   | returned v=>obtain⟨g',ad,x,h1,h2,h3,h4⟩:=hp; exact qv g' ad w2 x v h1 h2 h3 h4
   | panicked ch=>obtain⟨g',ad,x,v,rfl,h1,h2,h3,h4⟩:=hp; exact KH g' ad w2 x v h1 h2 h3 h4
   | outgrown=>exact hp.elim
 | panic v=>obtain⟨u,w',rfl,fp,hx⟩:=fits; exact KH g _ w' v u (Gh.Le.refl g) fp hx h
 | cond p r ih=>exact ih (fits h.1) h.2
 | bad=>exact h.elim
theorem zm {mu:List Nat} {ops:Array Oper} (cS:mP nt ops=true) (g0:Gh):∀ (l:List Nat) (g:Gh) (U:St) (w:World) (ρ:Env) (a:Act) (ds:List Deferred),Gh.Le g0 g->bw g U w->jx C g->iQ g ρ a.tmps->a.tmps.size=nt->a.defers=ds ->
 qL C mu ops (l.filterMap (ops[·]?)) ρ U (KQ Q) (zV Q)->wpOpsIn (FW fr) 0 C.P ops (sL g0 nt nm ds Q) l a w
 | [],g,U,w,ρ,a,ds,h0,hs,hG,hr,hn,hd,h=>by
   simp only[wpOpsIn];exact⟨hn,g,U,ρ,[],by simpa using hd,nK _ _ _,h0,hs,hr,h⟩
 | i::rest,g,U,w,ρ,a,ds,h0,hs,hG,hr,hn,hd,h=>by
   simp only[wpOpsIn];cases ho:ops[i]? with
   | none =>
     simp only[List.filterMap_cons,ho]at h;exact zm cS g0 rest g U w ρ a ds h0 hs hG hr hn hd h
   | some o =>
     dsimp only;simp only[List.filterMap_cons,ho,qL]at h;have oX:o∈ops.toList:=by
      have:=gw (l:=ops.toList) (i:=i) (a:=o) (by rw[mH]; exact ho);exact this
     have KG:DK nt o=true:=by
      unfold mP at cS;rw[fm]at cS;exact cS o oX
     have Xl:∀ d,o.dst=some d->d<a.tmps.size:=λ d zZ=>by
      simp only[DK,zZ,cb,eg]at KG;rw[hn]; exact KG.1
     have go:∀ g' ad w' x v,Gh.Le g g'->bw g' ad w'->aA g' x v->qL C mu ops (rest.filterMap (ops[·]?)) (ρ.fj o.dst x) ad (KQ Q) (zV Q)->wpOpsIn (FW fr) 0 C.P ops (sL g0 nt nm ds Q) rest (a.put o.dst v) w':=λ g' ad w' x v hle fp hx hk =>
      zm cS g0 rest g' ad w' (ρ.fj o.dst x) (a.put o.dst v) ds (h0.trans hle) fp (hG.mono hle) ((hr.mono hle).fj Xl hx) (by rw[(qe a o.dst v).2]; exact hn) (by rw[(qe a o.dst v).1]; exact hd) hk
     cases Sx:jm ops ρ o.guard<;>rw[Sx]at h<;>simp only[ax]at h
     rename_i b;have hw:=CO hr Sx;cases b
     . rw[if_neg (by rw[hw]; simp)];exact⟨λ _ _=>trivial,go g U w (.aK []) undef (Gh.Le.refl g) hs wU (h.2 rfl)⟩
     . rw[if_pos hw];refine rJ KG hs hG hr hn (h.1 rfl) go ?_ (ds:=ds);intro g' ad w' x v hle fp hx hk;exact⟨hn,g',ad,ρ,[],by simpa using hd,nK _ _ _,h0.trans hle,fp,hr.mono hle,x,v,rfl,hx,hk ρ⟩
theorem Fm (ops:Array Oper):(List.range ops.size).filterMap (ops[·]?)=ops.toList:=by
 apply List.ext_getElem?;intro i;have:∀ n,n<=ops.size->(List.range n).filterMap (ops[·]?)=ops.toList.take n:=λ n=>by
  induction n with
  | zero=>intro _; simp
  | succ n ih =>
    intro hn;rw[List.range_succ,List.filterMap_append,ih (by omega),tK];have:ops[n]?=some ops[n]:=by simp
    simp[this]
 rw[this ops.size (bX _),qg (by simp)]
theorem bL.region {id:Nat} {ops:Array Oper} (mu:List Nat) (cS:mP nt ops=true) (h:qL C mu ops ops.toList ρ U (KQ Q) (zV Q)):bL C nt ro (.region id ops false) Q ρ U:=by
 intro g w a fr h1 h2 h3 h4 z8;exact wpIn_region (zm cS g (List.range ops.size) g U w ρ a a.defers (Gh.Le.refl g) h1 h2 h3 h4 rfl (by rw[Fm]; exact h))
end
end Go.Rip
namespace Go.Rip
open Go.RowKit
def pD (x:AV) (U:St) (x':AV) (ad:St):Prop:=∀ g w v,bw g U w->aA g x v->∃ g',Gh.Le g g'/\bw g' ad w/\aA g' x' v
theorem pD.refl (x:AV) (U:St):pD x U x U:=λ g w v h hr=>⟨g,Gh.Le.refl g,h,hr⟩
theorem pD.trans {x y z:AV} {a b c:St} (h:pD x a y b) (k:pD y b z c):pD x a z c:=λ g w v hs hr =>
 let ⟨g1,l1,s1,r1⟩:=h g w v hs hr;let ⟨g2,l2,s2,r2⟩:=k g1 w v s1 r1
 ⟨g2,l1.trans l2,s2,r2⟩
theorem pD.freeze {b:Nat} {U:St} {l:List AV} (hb:U.box b=some l):pD (.box b 0) U (.da l) (U.del b):=λ g w v hs hr=>by
 simp only[aA]at hr;obtain⟨x,hx,rfl⟩:=hr;obtain⟨g',vs,hle,_,hi,hl,fp⟩:=hs.freeze hb hx;exact⟨g',hle,fp,by simp only[aA]; exact⟨x.aL,0,vs,rfl,hi,hl.mono hle⟩⟩
theorem pD.W9 {b n j9:Nat} {e:TypeId} {U:St} {l:List AV} (hb:U.box b=some l):pD (.ms b 0 n j9 e) U (.vec n .iE l) (U.del b):=λ g w v hs hr=>by
 simp only[aA]at hr;obtain⟨x,c,hx,rfl,h1,h2,_,_⟩:=hr;obtain⟨g',vs,hle,_,hi,hl,fp⟩:=hs.freeze hb hx;exact⟨g',hle,fp,by simp only[aA]; exact⟨x.aL,0,c,vs,rfl,h1,h2,trivial,hi,hl.mono hle⟩⟩
def Cj (P:Program) (t:TypeId) (p:AV) (U:St) (k:AV->Prop):Prop :=
 match wJ P t p U with
 | .val v=>k v
 | @aC.cond q _ (.val v)=>q/\k v
 | _=>False
def xy (P:Program) (ρ:Env) (U:St):List ResultVar->(List AV->Prop)->Prop
 | [],k=>k []
 | .tmp t::rs,k=>xy P ρ U rs λ vs=>k (ρ.get t::vs)
 | .cell t ty::rs,k=>Cj P ty (ρ.get t) U λ v=>xy P ρ U rs λ vs=>k (v::vs)
def xD:List AV->AV
 | [x]=>x
 | l=>.aK l
def ajy (P:Program) (fn:Func) (R:cV->St->Prop):Ex->Env->St->Prop
 | .normal,ρ,U|.ret,ρ,U=>xy P ρ U fn.results.toList λ vs=>∃ x ad,pD (xD vs) U x ad/\R (.ret x) ad
 | .panic x,_,U=>R (.panic x) U
 | .exit _,_,_=>False
def Env.kX (args:List AV):Env:=⟨λ t=>args.getD t (.aK [])⟩
section
variable {C:de} {g:Gh} {U:St} {w:World} {nt:Nat} {ro:Ro} {Q:Ex->Env->St->Prop} {ρ:Env}
theorem Td (h:bw g U w) {t:TypeId} {p:AV} {v:Value} (hp:aA g p v) {k:AV->Prop} (hk:Cj C.P t p U k):∃ u x,(do loadVar t (<- asAddr v):Sem Value).run C.P w=.ok u w/\aA g x u/\k x:=by
 unfold Cj wJ at hk;cases hv:pJ C.P t with
 | none=>simp[hv]at hk
 | some bs =>
   obtain⟨b,sz⟩:=bs;cases hl:od U p with
   | none=>rw[hv,hl]at hk; cases b<;>simp at hk
   | some l =>
     rw[hv,hl]at hk;obtain⟨i,d,hi,hd,hb,fH⟩:=qp hv;obtain⟨a,vs,rfl,ha,hr,hc⟩:=tU h hp hl;cases b
     . cases l with
       | nil=>simp[jH]at hk
       | cons x xs =>
         simp only[jH]at hk;simp only[aH]at hr;obtain⟨u,us,rfl,h1,h2⟩:=hr;have:=(hc 0 u rfl).1;have h0:a.add 0=a:=by simp[Addr.add]
         rw[h0]at this;refine⟨u,x,?_,h1,hk⟩;simp only[asAddr,loadVar,cF,cZ,cU,nv hd,hb,bZ,if_false,run_load,this,fX]
     . obtain⟨hle,hk⟩:=hk;have hlen:=hr.length;have je:(loadCells a (vs.take sz).length).run C.P w=.ok (vs.take sz).toArray w :=
        run_loadCells_list (P:=C.P) w a (vs.take sz) λ j u hu=>by
         rw[List.getElem?_take]at hu;split at hu
         . exact (hc j u hu).1
         . cases hu
       have pP:(vs.take sz).length=sz:=by simp; omega
       rw[pP]at je;have Se:∀ u∈vs.take sz,u.oneCell'=true:=λ u hu=>by
        obtain⟨j,hj⟩:=List.getElem?_of_mem hu;rw[List.getElem?_take]at hj;split at hj
        . exact (hc j u hj).2
        . cases hj
       refine⟨.agg (vs.take sz).toArray,_,?_,?_,hk⟩
       . simp only[asAddr,loadVar,cF,cZ,cU,nv hd,hb,if_true,fF hi,fH,je,fX]
       . simp only[aA]; exact⟨_,rfl,Se,hr.take sz⟩
theorem DR (h:bw g U w) {a:Act} (hr:iQ g ρ a.tmps):∀ (rs:List ResultVar) (k:List AV->Prop),xy C.P ρ U rs k ->
 ∃ us xs,(rs.mapM (fun
  | .tmp t=>pure (a.tmps.getD t undef)
  | .cell p t=>do loadVar t (<- asAddr (a.tmps.getD p undef)):ResultVar->Sem Value)).run C.P w=.ok us w/\aH g xs us/\k xs
 | [],k,hk=>⟨[],[],by simp,by simp[aH],hk⟩
 | .tmp t::rs,k,hk=>by
   obtain⟨us,xs,h1,h2,h3⟩:=DR h hr rs _ hk;exact⟨a.tmps.getD t undef::us,ρ.get t::xs,by simp only[List.mapM_cons,cF,cZ,cU,h1],by simp only[aH]; exact⟨_,_,rfl,hr t,h2⟩,h3⟩
 | .cell p t::rs,k,hk=>by
   obtain⟨u,x,h4,h5,h6⟩:=Td h (hr p) hk;obtain⟨us,xs,h1,h2,h3⟩:=DR h hr rs _ h6;simp only[cF]at h4;exact⟨u::us,x::xs,by simp only[List.mapM_cons,cF,cZ,h4,cU,h1],by simp only[aH]; exact⟨_,_,rfl,h5,h2⟩,h3⟩
theorem Df (h:bw g U w) {a:Act} (hr:iQ g ρ a.tmps) {fn:Func} {k:List AV->Prop} (hk:xy C.P ρ U fn.results.toList k) :
 ∃ u xs,(results fn a.tmps).run C.P w=.ok u w/\aA g (xD xs) u/\k xs:=by
 obtain⟨us,xs,h1,h2,h3⟩:=DR h hr _ k hk;have e:(results fn a.tmps).run C.P w=.ok (if h:us.toArray.size=1 then us.toArray[0] else .tuple us.toArray) w:=by
  unfold results;rw[Array.mapM_eq_mapM_toList];simp only[cF,Sem.run_map,cZ];erw [h1];rfl
 refine⟨_,xs,e,?_,h3⟩
 match xs,us,h2 with
 | [],us,h2 =>
   simp only[aH]at h2; subst h2;simp[xD,aA,aH]
 | [x],us,h2 =>
   simp only[aH]at h2;obtain⟨u,_,rfl,h4,rfl⟩:=h2;simpa [xD] using h4
 | x::y::zs,us,h2 =>
   have hl:=h2.length;rw[dif_neg (by simp at hl ⊢; omega)];simp only[xD,aA];exact⟨us,rfl,h2⟩
theorem Dp (args:List AV) (vs:List Value) (n:Nat) (ha:aH g args vs):iQ g (Env.kX args) (vs.toArray++Array.replicate n undef):=λ t=>by
 simp only[Env.kX,Array.getD_eq_getD_getElem?,oC,Array.getElem?_append,List.size_toArray,List.getElem?_toArray];have hl:=ha.length
 by_cases ht:t<vs.length
 . rw[if_pos ht];obtain⟨x,hx⟩:∃ x,args[t]?=some x:=⟨args[t]'(by omega),by simp⟩;obtain⟨v,hv,hr⟩:=ha.get hx;rw[hx,hv]; exact hr
 . rw[if_neg ht,vT (by omega)];simp only[Option.getD_none];have:((Array.replicate n undef)[t-vs.length]?).getD undef=undef:=by
    rw[Array.getElem?_replicate]; split<;>rfl
   rw[this]; exact wU
theorem sF {fn:Func} {a:Act} {R:cV->St->Prop} (g0:Gh):∀ (ms:List Nat) (g:Gh) (w:World) (u:FrameMode),ms.Nodup->(∀ r∈ms,g.res r=true/\g0.res r=false)->Gh.Le g0 g->bw g U w->iQ g ρ a.tmps ->
 ((u=.returning/\xy C.P ρ U fn.results.toList λ vs=>∃ x ad,pD (xD vs) U x ad/\R (.ret x) ad)\/(∃ x v,u=.panicking [{ v,recovered:=false }]/\aA g x v/\R (.panic x) U)) ->
 LeavesInM Fence.wide 0 C.P fn a.tmps (qz g0 R) (ms.map Jl) u w
 | [],g,w,u,_,_,hle,hs,hr,h=>by
   simp only[oB,LeavesInM];rcases h with ⟨rfl,h⟩|⟨x,v,rfl,hx,h⟩
   . obtain⟨v,xs,je,hv,x,ad,ht,hR⟩:=Df hs hr h;obtain⟨g',P3,fp,hx⟩:=ht g w v hs hv;exact⟨v,je,g',ad,x,hle.trans P3,fp,hx,hR⟩
   . exact⟨g,U,x,v,rfl,hle,hs,hx,h⟩
 | r::ms,g,w,u,hnd,AZ,hle,hs,hr,h=>by
   simp only[dH,LeavesInM];refine⟨by rcases h with ⟨rfl,_⟩|⟨_,_,rfl,_⟩<;>simp,.inl ⟨r,{ w with heap:=w.heap.setIfInBounds r (Obj.deferred none) },rfl,?_,?_⟩⟩
   . obtain⟨_,hh⟩:=hs.res r (AZ r (by simp)).1;simp[Instr.takeDeferred,getObj,setObj,cF,Sem.run,hh,Result.andThen]
   . have hlR:Gh.vq g { g with res:=λ x=>if x=r then false else g.res x }:=⟨λ _ _ h=>h,λ _ _ _ h=>h,λ _ _ h=>h⟩
     refine sF g0 ms { g with res:=λ x=>if x=r then false else g.res x } _ u (List.nodup_cons.1 hnd).2 (λ q hq=>?_) ?_ (hs.shut (AZ r (by simp)).1) (λ t=>(hr t).fS hlR) ?_
     . refine⟨?_,(AZ q (by simp[hq])).2⟩;show (if q=r then false else g.res q)=true
       rw[if_neg (λ e:q=r=>by subst e; exact (List.nodup_cons.1 hnd).1 hq)];exact (AZ q (by simp[hq])).1
     . refine⟨hle.base,hle.w0,hle.place,hle.cJ,hle.cu,λ q hq=>?_,hle.A9,hle.ye⟩;show (if q=r then false else g.res q)=true
       have ca:q≠r:=λ e=>by subst e; rw[(AZ q (by simp)).2]at hq; cases hq
       rw[if_neg ca];exact hle.res q hq
     . rcases h with h|⟨x,v,h1,h2,h3⟩
       . exact .inl h
       . exact .inr ⟨x,v,h1,h2.fS hlR,h3⟩
theorem ae.OI {f:FuncId} {fn:Func} {c:Code} {args:List AV} {R:cV->St->Prop} (hf:C.P.funcs[f]?=some fn) (hb:fn.body=some c) (hlen:args.length<=fn.ntmps)
 (h:bL C fn.ntmps .fn c (ajy C.P fn R) (Env.kX args) U):ae C f args U R:=by
 intro g w vs hs hG ha;have hl:=ha.length;refine callsIn_of_wp_marks hf hb trivial ?_;have Gg:=Dp args vs (fn.ntmps-args.length) ha;have:=h g w { tmps:=vs.toArray++Array.replicate (fn.ntmps-vs.toArray.size) undef,defers:=[] } none hs hG (by
  have e:vs.toArray.size=args.length:=by simpa using hl
  rw[e]; exact Gg) (by simp; omega) trivial
 refine wpIn_mono this ?_;rintro e a w' ⟨k1,g',ad,eP,ms,k2,k3,k4,k5,k6,k7⟩;simp only[gx]at k2;cases e with
 | normal =>
   show LeavesInM _ _ _ _ _ _ a.defers _ _;rw[k2];exact sF g ms g' w' _ k3.nodup k3.res k4 k5 k6 (.inl ⟨rfl,k7⟩)
 | ret =>
   show LeavesInM _ _ _ _ _ _ a.defers _ _;rw[k2];exact sF g ms g' w' _ k3.nodup k3.res k4 k5 k6 (.inl ⟨rfl,k7⟩)
 | panic ch =>
   obtain⟨x,v,rfl,hx,hR⟩:=k7;show LeavesInM _ _ _ _ _ _ a.defers _ _;rw[k2];exact sF g ms g' w' _ k3.nodup k3.res k4 k5 k6 (.inr ⟨x,v,rfl,hx,hR⟩)
 | exit id=>exact k7.elim
 | goto l=>exact k7.elim
 | outgrown=>exact k7.elim
def Pure (C:de) (f:FuncId) (args:List AV) (x:AV):Prop:=∀ U R,R (.ret x) U->ae C f args U R
end
end Go.Rip
namespace Go.Rip
open Go.RowKit
section
variable {C:de} {g:Gh} {U:St} {w:World} {nt:Nat} {ro:Ro} {Q:Ex->Env->St->Prop} {ρ:Env}
def afe (o:Nat) (Q:Ex->Env->St->Prop) (ρ:Env):cV->St->Prop
 | .ret _,ad=>∃ L,ad.loop o=some L/\L.state≠.busy/\(match L.gL with
   | none=>Q .normal ρ (ad.del o)
   | some .ret=>Q .ret ρ (ad.del o)
   | some (.exit id)=>Q (.exit id) ρ (ad.del o)
   | _=>False)
 | .panic x,ad=>Q (.panic x) ρ ad
theorem bw.WO (h:bw g U w) {o:Nat} {L:gm} {p:Place} (ho:U.loop o=some L) (hp:g.place o=some p) (x:Loop) :
 bw g (U.del o) { w with heap:=w.heap.setIfInBounds p.aL (.loop x) }:=by
 obtain⟨p',k1,k2,fn,tmps,defers,k3,_⟩:=h.live o _ (St.o0.1 ho);rw[hp]at k1; cases k1;refine (h.weaken (St.vw U o)).change p.aL k2 (Gh.Le.refl g) rfl rfl ⟨rfl,rfl,rfl,by simp⟩ (λ k hk _=>Array.getElem?_setIfInBounds_ne (Ne.symm hk)) (λ _ _ _=>rfl) (λ _ _=>rfl) (λ q u hu=>?_) (λ es c hr=>?_) (λ b' x' p' h1 h2 e=>?_) (h.vV (St.o0.1 ho) hp)
 . have:=(h.cJ _ _ _ hu).1; simp[World.cell?,k3]at this
 . have:=(h.cu _ _ _ hr).1; rw[k3]at this; cases this
 . simp only[St.del]at h1;split at h1
   . cases h1
   . rename_i ne; exact ne (h.apart _ _ _ _ _ _ h1 (St.o0.1 ho) h2 hp e)
theorem bw.tL (h:bw g U w) {o:Nat} {L L':gm} {p:Place} (ho:U.loop o=some L) (hp:g.place o=some p) {fn:FuncId} {tmps:Array Value} {defers:Nat}
 (hn:tmps.size=L'.nt) (hr:∀ t,aA g (L'.ρ t) (tmps.getD t undef)) :
 bw g (U.set o (.loop L')) { w with heap:=w.heap.setIfInBounds p.aL (.loop { state:=L'.state,pending:=L'.gL,fn,tmps,params:=L'.params,assign:=L'.assign,body:=L'.body,defers }) }:=by
 obtain⟨p',k1,k2,Zl,Jt,B8,k3,_⟩:=h.live o _ (St.o0.1 ho);rw[hp]at k1; cases k1;have aN:=(mG.1 k3).1;refine h.rewrite (St.o0.1 ho) hp ⟨rfl,rfl,rfl,by simp⟩ (λ k hk _=>Array.getElem?_setIfInBounds_ne (Ne.symm hk)) (λ q=>?_) ?_ ⟨fn,tmps,defers,by simp[aN],hn,hr⟩
 . cases e:g.cJ p.aL q with
   | none=>rfl
   | some u=>have:=(h.cJ _ _ _ e).1; simp[World.cell?,k3]at this
 . cases e:g.cu p.aL with
   | none=>rfl
   | some u=>have:=(h.cu _ _ _ e).1; rw[k3]at this; cases this
theorem bL.rangeFunc (tag:Nat) {f:Operand} {ps:Array Tmp} {assign body:Code} {lN:FuncId} {first cap:List AV} (hf:ρ.ev C f=.func (.func lN) first cap) (vG:fC C.P lN=true)
 (h:∀ o,U.dL o->ae C lN (first++[.te o]++cap) (U.new o (.loop ⟨ρ.get,nt,ps,assign,body,.ready,none,tag⟩)) (afe o Q ρ)):bL C nt .fn (.rangeFunc f ps assign body) Q ρ U:=by
 intro g w a fr hs hG hr hn z8;cases fr with
 | some l=>exact z8.elim
 | none =>
 have hev:=vB hG hr f;rw[hf]at hev;simp only[aA]at hev;obtain⟨fs,cs,hval,Ss,x7⟩:=hev;refine wpIn_rangeFunc λ fn _=>?_;obtain⟨Kx,A6⟩:=hs.abL;have hrE:=hr.mono Kx;obtain⟨o,g2,f1,f2,f3,f4⟩:=A6.vN (.loop { state:=.ready,pending:=none,fn:=fn,tmps:=a.tmps,params:=ps,assign,body,defers:=w.heap.size }) 0 0 (.loop ⟨ρ.get,nt,ps,assign,body,.ready,none,tag⟩)
  λ g' hle _ _=>⟨fn,a.tmps,w.heap.size,heap_alloc_new _ _,hn,λ t=>(hrE t).mono hle⟩
 have vH:=Kx.trans f2
 obtain⟨Kd,hfn,ZG,hng⟩:∃ Kd,C.P.funcs[lN]?=some Kd/\Kd.body.isNone=false/\(Kd.name == "runtime.NumGoroutine")=false:=by
  unfold fC at vG;split at vG
  . rename_i Kd hfn;simp only[cb,Bool.not_eq_true']at vG;exact⟨Kd,hfn,by cases hb:Kd.body<;>simp_all,vG.2⟩
  . cases vG
 refine⟨w.heap.size+1,[{ target:=.collected w.heap.size,args:=#[] }],((w.alloc (.deferred (some []))).alloc (.loop { state:=.ready,pending:=none,fn:=fn,tmps:=a.tmps,params:=ps,assign,body,defers:=w.heap.size })),
  { target:=.fn (.func lN) cs.toArray,args:=fs.toArray++#[.func (.yield (w.heap.size+1)) #[] #[]] },((w.alloc (.deferred (some []))).alloc (.loop { state:=.ready,pending:=none,fn:=fn,tmps:=a.tmps,params:=ps,assign,body,defers:=w.heap.size })),lN,(fs.toArray++#[.func (.yield (w.heap.size+1)) #[] #[]])++cs.toArray,((w.alloc (.deferred (some []))).alloc (.loop { state:=.ready,pending:=none,fn:=fn,tmps:=a.tmps,params:=ps,assign,body,defers:=w.heap.size })),?_,?_,λ _ _=>trivial,?_,λ hd=>by simp[FW,Fence.wide]at hd,?_⟩
 . simp only[Instr.enterLoop,FW,cF,run_newObj,cZ,cU];rw[Array.size_push];rfl
 . simp only[resolve,rangeCall,List.map_toArray,dH,oB];rw[hval];simp only[Deferred.ofValue,cZ];rfl
 . simp only[invoke,callFunc,cF,cZ,cU,run_program,hfn,hng,ZG,bZ,if_false,fX]
 . have hc:=h o f1 g2 _ (fs++[Value.func (.yield (w.heap.size+1)) #[] #[]]++cs) f4 (hG.mono vH) (((Ss.mono vH).append (by
    simp only[aH];exact⟨_,_,rfl,by simp only[aA]; exact⟨_,f3,by simp⟩,rfl⟩)).append (x7.mono vH))
   have e:(fs++[Value.func (.yield (w.heap.size+1)) #[] #[]]++cs).toArray=fs.toArray++#[Value.func (.yield (w.heap.size+1)) #[] #[]]++cs.toArray:=by simp
   rw[e]at hc;have oP:CallsIn (FW none) 0 C.P lN _ _ _:=hc;refine oP.mono ?_;rintro e w3 hp;have SD:∀ g3,Gh.Le g2 g3->qq false g g3 [w.heap.size]:=λ g3 hl=>⟨λ h=>(by cases h),by simp,λ r hr=>by
    simp only[kn]at hr; subst hr;exact⟨hl.res _ (f2.res _ (by simp)),hs.GH (bX _)⟩⟩
   cases e with
   | returned v =>
     obtain⟨g3,bR,x,h1,h2,h3,L,h4,h5,h6⟩:=hp;obtain⟨p,q1,q2,Zl,Jt,B8,q3,q4,q5⟩:=h2.live o _ (St.o0.1 h4);have nj:g3.place o=some ⟨w.heap.size+1,0,0⟩:=h1.place _ _ (by rw[f3]; simp);rw[nj]at q1; cases q1;have x8:(getObj (w.heap.size+1)).run C.P w3=.ok (.loop { state:=L.state,pending:=L.gL,fn:=Zl,tmps:=Jt,params:=L.params,assign:=L.assign,body:=L.body,defers:=B8 }) w3:=by simp[getObj,Sem.run,q3]
     have KM:∀ x,(setObj (w.heap.size+1) x).run C.P w3=.ok () { w3 with heap:=w3.heap.setIfInBounds (w.heap.size+1) x }:=λ x=>by simp[setObj,Sem.run,q3]
     have ag2:(L.state==LoopState.busy)=false:=by
      cases hL:L.state<;>first
       | rfl
       | exact absurd hL h5
     have Kq:(Instr.endLoop (w.heap.size+1)).run C.P w3=.ok L.gL { w3 with heap:=w3.heap.setIfInBounds (w.heap.size+1) (.loop { state:=.exhausted,pending:=L.gL,fn:=Zl,tmps:=Jt,params:=L.params,assign:=L.assign,body:=L.body,defers:=B8 }) }:=by
      simp only[Instr.endLoop,Instr.getLoop,cF,x8,cU,cZ,ag2,bZ,if_false,fX,KM]
     have hs3:=h2.WO h4 nj { state:=.exhausted,pending:=L.gL,fn:=Zl,tmps:=Jt,params:=L.params,assign:=L.assign,body:=L.body,defers:=B8 };have post:∀ ex,J6 g3 Q ρ (bR.del o) ex->sL g nt false a.defers Q ex { a with defers:=[{ target:=.collected w.heap.size,args:=#[] }]++a.defers } _:=λ ex hq =>
      ⟨hn,g3,bR.del o,ρ,[w.heap.size],rfl,SD g3 h1,vH.trans h1,hs3,hr.mono (vH.trans h1),hq⟩
     refine⟨L.gL,_,Kq,?_⟩;generalize L.gL=gL at h6 post ⊢;cases gL with
     | none=>exact post .normal h6
     | some c =>
       cases c<;>first
        | exact h6.elim
        | exact wpIn_exit (post (.exit _) h6)
        | exact wpIn_ret (post .ret h6)
   | panicked ch =>
     obtain⟨g3,bR,x,v,rfl,h1,h2,h3,h4⟩:=hp;exact⟨hn,g3,bR,ρ,[w.heap.size],rfl,SD g3 h1,vH.trans h1,h2,hr.mono (vH.trans h1),x,v,rfl,h3,h4⟩
   | outgrown=>exact hp.elim
def zy (ρ:Nat->AV):List Tmp->List AV->Nat->AV
 | t::ts,v::vs=>zy (λ x=>if x=t then v else ρ x) ts vs
 | _,_=>ρ
theorem Lz {ρ:Nat->AV} {tmps:Array Value}:∀ (ps:List Tmp) (args:List AV) (vs:List Value) (ρ:Nat->AV) (tmps:Array Value),(∀ t,aA g (ρ t) (tmps.getD t undef))->(∀ t∈ps,t<tmps.size)->aH g args vs ->
 ((ps.zip vs).foldl (λ (tmps:Array Value) (p:Tmp×Value)=>tmps.setIfInBounds p.1 p.2) tmps).size=tmps.size/\∀ t,aA g (zy ρ ps args t) (((ps.zip vs).foldl (λ (tmps:Array Value) (p:Tmp×Value)=>tmps.setIfInBounds p.1 p.2) tmps).getD t undef)
 | [],args,vs,ρ,tmps,h,_,_=>by simpa [zy] using h
 | t::ts,[],vs,ρ,tmps,h,_,ha=>by
   simp only[aH]at ha; subst ha;simpa [zy] using h
 | t::ts,x::args,vs,ρ,tmps,h,hl,ha=>by
   simp only[aH]at ha;obtain⟨v,vs,rfl,hx,ha⟩:=ha;simp only[List.zip_cons_cons,List.foldl_cons,zy];have h1:∀ t',aA g ((λ y=>if y=t then x else ρ y) t') ((tmps.setIfInBounds t v).getD t' undef):=(iQ.put (g:=g) (ρ:=⟨ρ⟩) h (hl t (by simp)) hx)
   obtain⟨h2,h3⟩:=Lz (ρ:=ρ) (tmps:=tmps) ts args vs _ (tmps.setIfInBounds t v) h1 (λ t' r9=>by simpa using hl t' (by simp[r9])) ha;exact⟨by rw[h2]; simp,h3⟩
def aff (o:Nat) (R:cV->St->Prop):Ex->Env->St->Prop
 | .normal,_,U=>∃ L,U.loop o=some L/\R (.ret (.bool true)) (U.set o (.loop { L with state:=.ready,gL:=none }))
 | .ret,_,U=>∃ L,U.loop o=some L/\R (.ret (.bool false)) (U.set o (.loop { L with state:=.done,gL:=some .ret }))
 | .exit id,_,U=>∃ L,U.loop o=some L/\R (.ret (.bool false)) (U.set o (.loop { L with state:=.done,gL:=some (.exit id) }))
 | .panic _,_,_=>False
def aa1 (C:de) (o:Nat) (body:Code) (nt:Nat) (R:cV->St->Prop):Ex->Env->St->Prop
 | .normal,ρ,U=>∃ L,U.loop o=some L/\L.state=.ready/\bL C nt (.round o) body (aff o R) ρ (U.set o (.loop { L with state:=.busy }))
 | _,_,_=>False
theorem n7.Lq {o:Nat} {args:List AV} {R:cV->St->Prop} {L:gm} (hL:U.loop o=some L) (hargs:args.length=L.params.size) (uP:∀ t∈L.params.toList,t<L.nt)
 (h:bL C L.nt (.round o) L.assign (aa1 C o L.body L.nt R) ⟨zy L.ρ L.params.toList args⟩ U):n7 C o args U R:=by
 intro g w vs x hs hG ha hx;obtain⟨p,k1,k2,fn,tmps,defers,k3,k4,k5⟩:=hs.live o _ (St.o0.1 hL);rw[hx]at k1; cases k1;have x8:(getObj x.aL).run C.P w=.ok (.loop { state:=L.state,pending:=L.gL,fn,tmps,params:=L.params,assign:=L.assign,body:=L.body,defers }) w:=by simp[getObj,Sem.run,k3]
 have fH:vs.length=L.params.size:=by rw[ha.length,hargs]
 obtain⟨z1,z2⟩:=Lz (g:=g) (ρ:=L.ρ) (tmps:=tmps) L.params.toList args vs L.ρ tmps k5 (λ t ht=>by rw[k4]; exact uP t ht) ha;have agS:(L.params.zip vs.toArray).foldl (λ (tmps:Array Value) (p:Tmp×Value)=>tmps.setIfInBounds p.1 p.2) tmps=(L.params.toList.zip vs).foldl (λ (tmps:Array Value) (p:Tmp×Value)=>tmps.setIfInBounds p.1 p.2) tmps:=by
  rw[<- Array.foldl_toList]; congr 1; simp
 refine⟨fn,(L.params.toList.zip vs).foldl (λ (tmps:Array Value) (p:Tmp×Value)=>tmps.setIfInBounds p.1 p.2) tmps,L.assign,L.body,?_,?_⟩
 . simp only[Instr.yield,Instr.getLoop,cF,x8,cU,cZ,List.size_toArray,fH,ne_eq,not_true_eq_false,if_false,fX];rw[<- agS]
 . refine roundIn_of_wpIn trivial ?_;have h1:=h g w { tmps:=(L.params.toList.zip vs).foldl (λ (tmps:Array Value) (p:Tmp×Value)=>tmps.setIfInBounds p.1 p.2) tmps,defers:=[] } (some x.aL) hs hG z2 (by rw[<- k4]; exact z1) ⟨x,hx,rfl⟩;have vD:L.assign.wpIn (Fence.wide.inRound x.aL) 0 C.P _ _ _:=h1;refine wpIn_mono vD ?_;rintro e a1 w1 ⟨q1,g1,aS,ρ1,ms,q2,q3,q4,q5,q6,q7⟩;cases e with
   | normal =>
     obtain⟨L1,r1,r2,r3⟩:=q7;obtain⟨p,k1,k2,fn,tmps,defers,k3,k4,k5⟩:=q5.live o _ (St.o0.1 r1);rw[q4.place _ _ hx]at k1; cases k1;have x8:(getObj x.aL).run C.P w1=.ok (.loop { state:=L1.state,pending:=L1.gL,fn,tmps,params:=L1.params,assign:=L1.assign,body:=L1.body,defers }) w1:=by simp[getObj,Sem.run,k3]
     have KM:∀ y,(setObj x.aL y).run C.P w1=.ok () { w1 with heap:=w1.heap.setIfInBounds x.aL y }:=λ y=>by simp[setObj,Sem.run,k3]
     have rZ:=q5.tL (L':={ L1 with state:=.busy }) (fn:=fn) (defers:=defers) r1 (q4.place _ _ hx) k4 k5
     refine⟨_,by simp only[Instr.beginRound,Instr.getLoop,cF,x8,cU,cZ,KM,r2]; rfl,?_⟩;have h2:=r3 g1 _ a1 (some x.aL) rZ (hG.mono q4) q6 q1 ⟨x,q4.place _ _ hx,rfl⟩;have wy:L.body.wpIn (Fence.wide.inRound x.aL) 0 C.P _ _ _:=h2;refine wpIn_mono wy ?_;rintro e a2 w2 ⟨q1',g2,bf,s0,Li,q2',q3',q4',q5',q6',OR⟩;have ZW:=(q4.trans q4').place _ _ hx;have fin:∀ (L2:gm) (jump:Option Code) (st:LoopState),bf.loop o=some L2->(if jump.isNone then LoopState.ready else .done)=st->R (.ret (.bool jump.isNone)) (bf.set o (.loop { L2 with state:=st,gL:=jump })) ->
      ∃ v w',(Instr.endRound x.aL jump).run C.P w2=.ok v w'/\qz g R (.returned v) w':=λ L2 jump st hl gr hR=>by
      obtain⟨p,k1,k2,fn,tmps,defers,k3,k4,k5⟩:=q5'.live o _ (St.o0.1 hl);rw[ZW]at k1; cases k1;have x8:(getObj x.aL).run C.P w2=.ok (.loop { state:=L2.state,pending:=L2.gL,fn,tmps,params:=L2.params,assign:=L2.assign,body:=L2.body,defers }) w2:=by simp[getObj,Sem.run,k3]
      have KM:∀ y,(setObj x.aL y).run C.P w2=.ok () { w2 with heap:=w2.heap.setIfInBounds x.aL y }:=λ y=>by simp[setObj,Sem.run,k3]
      have hs3:=q5'.tL (L':={ L2 with state:=st,gL:=jump }) (fn:=fn) (defers:=defers) hl ZW k4 k5
      refine⟨.bool jump.isNone,_,by simp only[Instr.endRound,Instr.getLoop,cF,x8,cU,cZ,KM,gr],g2,_,.bool jump.isNone,q4.trans q4',hs3,by simp only[aA],hR⟩
     cases e with
     | normal=>obtain⟨L2,hl,hR⟩:=OR; exact fin L2 none .ready hl rfl hR
     | ret=>obtain⟨L2,hl,hR⟩:=OR; exact fin L2 (some .ret) .done hl rfl hR
     | exit id=>obtain⟨L2,hl,hR⟩:=OR; exact fin L2 (some (.exit id)) .done hl rfl hR
     | panic ch=>obtain⟨x,v,_,_,hf⟩:=OR; exact hf.elim
     | goto l=>exact OR.elim
     | outgrown=>exact OR.elim
   | panic ch=>obtain⟨x,v,_,_,hf⟩:=q7; exact hf.elim
   | ret=>exact q7.elim
   | exit id=>exact q7.elim
   | goto l=>exact q7.elim
   | outgrown=>exact q7.elim
end
end Go.Rip
namespace Go.Rip
open Go.RowKit
section
variable {C:de} {g:Gh} {U ad:St} {w:World} {nt:Nat} {nm:Bool} {ro:Ro} {fr:Option Nat} {Q:Ex->Env->St->Prop} {ρ eP:Env} {mu:Bool}
theorem vM {l:List Operand} (h:∀ x∈l,ρ.ev C x=eP.ev C x):l.map (ρ.ev C)=l.map (eP.ev C):=List.map_congr_left h
theorem zX {parts:Array (Nat×Operand)} (h:∀ x∈(parts.toList.map (·.2)).toArray,ρ.ev C x=eP.ev C x):og C ρ parts=og C eP parts:=by
 unfold og;apply List.map_congr_left;intro p hp;rw[h p.2 (by simp; exact⟨p.1,by simpa using hp⟩)]
theorem Ty (o:Op) (h:∀ x∈o.operands,ρ.ev C x=eP.ev C x):kY C mu o ρ U=kY C mu o eP U:=by
 cases o with
 | call c =>
   obtain⟨callee,⟨args⟩,⟨tys⟩⟩:=c;simp only[kY,B6];have ha:args.map (ρ.ev C)=args.map (eP.ev C):=vM λ x hx=>h x (by simp only[Op.operands,Call.operands]; rw[Array.mem_append]; exact .inr (by simpa using hx));cases callee with
   | value f =>
     show jz C.P (ρ.ev C f) (args.map (ρ.ev C))=jz C.P (eP.ev C f) (args.map (eP.ev C));rw[ha,h f (by simp[Op.operands,Call.operands])]
   | invoke r m=>rfl
   | builtin b =>
     have hm:∀ x∈args,ρ.ev C x=eP.ev C x:=λ x hx=>h x (by simp only[Op.operands,Call.operands]; rw[Array.mem_append]; exact .inr (by simpa using hx));split<;>simp_all
 | build t parts=>simp only[kY]; rw[zX h]
 | buildSlice t n parts=>simp only[kY]; rw[zX h]
 | makeFunc fn first cap =>
   simp only[kY];rw[vM (l:=first.toList) λ x hx=>h x (by simp[Op.operands]; exact .inl (by simpa using hx)),vM (l:=cap.toList) λ x hx=>h x (by simp[Op.operands]; exact .inr (by simpa using hx))]
 | slice t x lo hi m =>
   cases m with
   | some _=>rfl
   | none =>
     simp only[kY];have h1:=h x (by simp[Op.operands]);have h2:lo.map (ρ.ev C)=lo.map (eP.ev C):=by
      cases lo with
      | none=>rfl
      | some y=>simp only[Option.map_some]; rw[h y (by simp[Op.operands])]
     have h3:hi.map (ρ.ev C)=hi.map (eP.ev C):=by
      cases hi with
      | none=>rfl
      | some y=>simp only[Option.map_some]; rw[h y (by simp[Op.operands])]
     rw[h1,h2,h3]
 | makeMap t r=>cases r<;>rfl
 | next i b=>cases b<;>simp_all [kY,Op.operands]
 | _=>simp_all [kY,Op.operands]
def eE:AV->List Nat
 | .box b _=>[b]
 | .ms b _ _ _ _=>[b]
 | .mp m=>[m]
 | .it o=>[o]
 | .vec _ (.own τ) _=>[τ]
 | _=>[]
theorem aa7 {b:Nat} (h:ad.live b=U.live b):ad.box b=U.box b:=by simp only[St.box,h]
theorem MI {p:AV} (h:∀ b∈eE p,ad.live b=U.live b):od ad p=od U p:=by
 cases p<;>simp only[od]
 rw[aa7 (h _ (by simp[eE]))]
def quiet:Op->Bool
 | .move _|.assign _|.pick ..|.load ..|.build ..|.buildSlice ..|.fieldAddr ..|.field ..|.indexAddr ..|.index ..|.binOp ..|.unOp ..|.convert ..|.nilCheck _|.lookup ..|.extract ..|.makeInterface ..|.makeFunc ..
 | .slice ..=>true
 | .call c=>match c.callee with
   | .value _=>true
   | .builtin .len|.builtin .min|.builtin .max=>true
   | _=>false
 | _=>false
def qA:Op->Bool
 | .load ..|.lookup ..=>true
 | _=>false
theorem abX (o:Op) (hq:quiet o=true) (h:qA o=true->∀ x∈o.operands,∀ b∈eE (ρ.ev C x),ad.live b=U.live b):kY C mu o ρ ad=kY C mu o ρ U:=by
 cases o with
 | call c =>
   obtain⟨callee,⟨args⟩,⟨tys⟩⟩:=c;simp only[kY,B6];cases callee with
   | value f=>rfl
   | invoke r m=>rfl
   | builtin b =>
     cases b<;>simp only[quiet,bZ]at hq
     all_goals (split<;>first
      | rfl
      | (simp only[K9]; done)
      | contradiction
      | simp_all)
 | load t a =>
   simp only[kY,wJ];rw[MI (h rfl a (by simp[Op.operands]))]
 | lookup t m k ok =>
   have:=h rfl m (by simp[Op.operands]);simp only[kY,yj];generalize ρ.ev C m=y at this ⊢;cases y<;>simp_all [eE,St.mp,lH]
 | slice t x lo hi m=>cases m<;>rfl
 | _=>first|rfl|simp[quiet]at hq
theorem aC.wp_mono {K K':AV->St->Prop} {Kp:AV->St->Prop} (hk:∀ v U,K v U->K' v U):∀ (r:aC) {U:St},r.wp C U K Kp->r.wp C U K' Kp
 | .val _,_,h=>hk _ _ h
 | .jG _ _ _,_,h=>hk _ _ h
 | .new _ _ _,_,h=>λ b hb=>hk _ _ (h b hb)
 | .nf _ _,_,h=>λ p hp=>hk _ _ (h p hp)
 | .enter _ _,_,h=>ae.mono h λ r U hr=>by cases r<;>first|exact hk _ _ hr|exact hr
 | .yield _ _,_,h=>n7.mono h λ r U hr=>by cases r<;>first|exact hk _ _ hr|exact hr
 | .panic _,_,h=>h
 | @aC.cond _ _ r,_,h=>⟨h.1,aC.wp_mono hk r h.2⟩
 | .bad,_,h=>h
theorem NL {x:Operand} {dst:Option Tmp} {v:AV} (h:∀ d,dst=some d->x≠.tmp d):(ρ.fj dst v).ev C x=ρ.ev C x:=by
 cases dst with
 | none=>rfl
 | some d =>
   cases x<;>simp only[Env.fj,Env.put,Env.ev]
   rename_i t;rw[if_neg (λ e=>h d rfl (by rw[e]))]
theorem OM (ops:Array Oper) (o:Oper) {dst:Option Tmp} {v:AV} (h:∀ d,dst=some d->d∉o.looksAt ops):kY C mu o.op (ρ.fj dst v) U=kY C mu o.op ρ U :=
 Ty o.op λ x hx=>NL λ d hd hxd=>h d hd (by
  subst hxd;exact List.mem_append_left _ (List.mem_filterMap.2 ⟨.tmp d,by simpa using hx,rfl⟩))
theorem Hm (ops:Array Oper) (o:Oper) {dst:Option Tmp} {v:AV} (h:∀ d,dst=some d->d∉o.looksAt ops):jm ops (ρ.fj dst v) o.guard=jm ops ρ o.guard:=by
 cases dst with
 | none=>rfl
 | some d =>
   have hd:=h d rfl;unfold jm;cases hg:o.guard with
   | none=>rfl
   | some jw =>
     obtain⟨j,want⟩:=jw;simp only;cases hb:(ops[j]?).bind (·.dst) with
     | none=>rfl
     | some t =>
       have ca:t≠d:=λ e=>by
        subst e;apply hd;unfold Oper.looksAt;rw[hg];simp only[hb,Option.toList_some,fT,kn,or_true]
       simp only[Env.fj,Env.put,if_neg ca]
theorem TL {d d':Option Tmp} {v v':AV} (h:∀ t,d=some t->d'≠some t):(ρ.fj d v).fj d' v'=(ρ.fj d' v').fj d v:=by
 cases d<;>cases d'<;>simp only[Env.fj]
 rename_i a b;have ca:b≠a:=λ e=>h a rfl (by rw[e]);simp only[Env.put,Env.mk.injEq];funext t
 by_cases h1:t=b
 . subst h1; rw[if_pos rfl,if_neg ca,if_pos rfl]
 . rw[if_neg h1]
   by_cases h2:t=a
   . rw[if_pos h2,if_pos h2]
   . rw[if_neg h2,if_neg h2,if_neg h1]
def pH (mu:List Nat) (o:Oper):Bool:=match o.dst with|some d=>mu.contains d|none=>false
def mR (C:de) (mu:List Nat) (ops:Array Oper) (I:St->Prop) (i:Nat) (K:Env->St->Prop) (Kp:AV->St->Prop) (ρ:Env) (U:St):Prop :=
 match ops[i]? with
 | none=>K ρ U
 | some o=>ax (jm ops ρ o.guard) ((kY C (pH mu o) o.op ρ U).wp C U (λ v ad=>I ad/\K (ρ.fj o.dst v) ad) Kp) (K (ρ.fj o.dst (.aK [])) U)
def onB (o:Oper) (k:Nat):Bool:=o.after.toList.any λ e=>Region.binds .any e&&Nat.beq e.on k
def uf (ops:Array Oper) (i:Nat):Bool:=match ops[i]? with
 | some o=>(List.range ops.size).all λ k=>Nat.beq k i||(onB o k||o.after.toList.any λ e=>Region.binds .any e&&(match ops[e.on]? with|some m=>onB m k|none=>false))
 | none=>false
def Dn (ops:Array Oper) (listed:Array Bool):Prop:=∀ m o,ops[m]?=some o->listed.getD m false=true->∀ e∈o.after,Region.binds .any e=true->listed.getD e.on false=true
theorem Ls {o:Oper} {k:Nat} (h:onB o k=true):∃ e∈o.after,Region.binds .any e=true/\e.on=k:=by
 unfold onB at h;rw[List.any_eq_true]at h;obtain⟨e,he,hb⟩:=h;simp only[cb]at hb;exact⟨e,by simpa using he,hb.1,fP hb.2⟩
theorem JC {ops:Array Oper} {i:Nat} {listed:Array Bool} (hD:Dn ops listed) (hr:i∈Region.ready .any ops listed) (h:uf ops i=true) (k:Nat) (hk:k<ops.size) (ca:k≠i):listed.getD k false=true:=by
 obtain⟨_,o,ho,ck⟩:=mem_ready.1 hr;unfold uf at h;rw[ho]at h;simp only[fm,List.mem_range,kJ]at h;rcases h k hk with h|h|h
 . exact absurd (fP h) ca
 . obtain⟨e,he,hb,EI⟩:=Ls h;rw[<- EI]; exact ck e he hb
 . rw[List.any_eq_true]at h;obtain⟨e,he,hb⟩:=h;rw[cb]at hb;have h1:=ck e (by simpa using he) hb.1;have h2:=hb.2;split at h2
   . rename_i m hm;obtain⟨e',mB,eY,aiU⟩:=Ls h2;rw[<- aiU]; exact hD _ m hm h1 e' mB eY
   . cases h2
def I8 (o:Oper):List Nat:=o.after.toList.filterMap λ e=>if Region.binds .any e=true then some e.on else none
def FB (ops:Array Oper):Nat->List Nat->List Nat
 | 0,l=>l
 | k+1,l=>FB ops k (if l.any (Nat.beq k)=true then (match ops[k]? with|some o=>I8 o++l|none=>l) else l)
def NG (ops:Array Oper) (i:Nat):Bool:=match ops[i]? with
 | some o=>let l:=FB ops ops.size (I8 o); (List.range ops.size).all λ k=>Nat.beq k i||l.any (Nat.beq k)
 | none=>false
def pS (ops:Array Oper) (i:Nat):Bool:=uf ops i||NG ops i
theorem abC {ops:Array Oper} {i:Nat} (h:uf ops i=true):pS ops i=true:=by unfold pS; rw[h]; rfl
theorem G2 {o:Oper} {k:Nat} (h:k∈I8 o):∃ e∈o.after,Region.binds .any e=true/\e.on=k:=by
 unfold I8 at h;rw[List.mem_filterMap]at h;obtain⟨e,he,h⟩:=h;split at h
 . rename_i hb; exact⟨e,by simpa using he,hb,by simpa using h⟩
 . cases h
theorem IB {ops:Array Oper} {listed:Array Bool} (hD:Dn ops listed):∀ (k:Nat) (l:List Nat),(∀ x∈l,listed.getD x false=true)->∀ x∈FB ops k l,listed.getD x false=true
 | 0,l,h,x,hx=>h x hx
 | k+1,l,h,x,hx=>by
   rw[FB]at hx;refine IB hD k _ (λ y hy=>?_) x hx;split at hy
   . rename_i hk;rw[List.any_eq_true]at hk;obtain⟨z,hz,SO⟩:=hk;obtain rfl:=fP SO;split at hy
     . rename_i o ho;rw[fT]at hy;rcases hy with hy|hy
       . obtain⟨e,he,hb,rfl⟩:=G2 hy;exact hD _ o ho (h _ hz) e he hb
       . exact h y hy
     . exact h y hy
   . exact h y hy
theorem EU {ops:Array Oper} {i:Nat} {listed:Array Bool} (hD:Dn ops listed) (hr:i∈Region.ready .any ops listed) (h:pS ops i=true) (k:Nat) (hk:k<ops.size) (ca:k≠i):listed.getD k false=true:=by
 unfold pS at h;rw[kJ]at h;rcases h with h|h
 . exact JC hD hr h k hk ca
 obtain⟨_,o,ho,ck⟩:=mem_ready.1 hr;unfold NG at h;rw[ho]at h;simp only[fm,List.mem_range,kJ]at h;rcases h k hk with h|h
 . exact absurd (fP h) ca
 . rw[List.any_eq_true]at h;obtain⟨z,hz,SO⟩:=h;obtain rfl:=fP SO;refine IB hD ops.size _ (λ y hy=>?_) _ hz;obtain⟨e,he,hb,rfl⟩:=G2 hy;exact ck e he hb
theorem Dn.set {ops:Array Oper} {listed:Array Bool} (hD:Dn ops listed) {i:Nat} (hr:i∈Region.ready .any ops listed):Dn ops (listed.setIfInBounds i true):=by
 intro m o ho hl e he hb;obtain⟨_,oi,ZK,ck⟩:=mem_ready.1 hr
 by_cases KB:i=m
 . subst KB;rw[ZK]at ho; cases ho;exact getD_set_true (ck e he hb)
 . rw[getD_set_ne false KB]at hl;exact getD_set_true (hD m o ho hl e he hb)
theorem Dn.none (ops:Array Oper) (n:Nat):Dn ops (Array.replicate n false):=by
 intro m o ho hl;rw[Array.getD_eq_getD_getElem?,Array.getElem?_replicate]at hl;split at hl<;>simp at hl
def Ix (ops:Array Oper) (I:St->Prop) (i:Nat) (U:St):Prop:=pS ops i=true\/I U
def oc (C:de) (mu:List Nat) (ops:Array Oper) (I:St->Prop) (K:Env->St->Prop) (Kp:AV->St->Prop):Nat->Array Bool->Env->St->Prop
 | 0,listed,ρ,U=>Region.ready .any ops listed=[]/\K ρ U
 | n+1,listed,ρ,U=>(Region.ready .any ops listed=[]->K ρ U)/\∀ i∈Region.ready .any ops listed,mR C mu ops (Ix ops I i) i (oc C mu ops I K Kp n (listed.setIfInBounds i true)) Kp ρ U
theorem Pf {mu:List Nat} {ops:Array Oper} {I:St->Prop} (cS:mP nt ops=true) (g0:Gh):∀ (fuel t:Nat) (listed:Array Bool) (g:Gh) (U:St) (w:World) (ρ:Env) (a:Act) (ds:List Deferred),Gh.Le g0 g->bw g U w->jx C g->iQ g ρ a.tmps->a.tmps.size=nt->a.defers=ds ->
 oc C mu ops I (KQ Q) (zV Q) fuel listed ρ U->wpOpsIn (FW fr) 0 C.P ops (sL g0 nt nm ds Q) (Region.linearise.go .any ops fuel t listed []) a w:=by
 intro fuel
 induction fuel with
 | zero =>
   intro t listed g U w ρ a ds h0 hs hG hr hn hd h;simp only[Region.linearise.go,List.reverse_nil,wpOpsIn];exact⟨hn,g,U,ρ,[],by simpa using hd,nK _ _ _,h0,hs,hr,h.2⟩
 | succ fuel ih =>
   intro t listed g U w ρ a ds h0 hs hG hr hn hd h;obtain⟨h1,h2⟩:=h;simp only[Region.linearise.go];change wpOpsIn (FW fr) 0 C.P ops (sL g0 nt nm ds Q) (match (Region.ready .any ops listed)[t%(Region.ready .any ops listed).length]? with
    | some i=>Region.linearise.go .any ops fuel (t / (Region.ready .any ops listed).length) (listed.setIfInBounds i true) [i]
    | none=>[].reverse) a w
   cases hi:(Region.ready .any ops listed)[t%(Region.ready .any ops listed).length]? with
   | none =>
     have Gi:Region.ready .any ops listed=[]:=by
      cases hr:Region.ready .any ops listed with
      | nil=>rfl
      | cons x xs =>
        rw[hr]at hi;have aN:t%(x::xs).length<(x::xs).length:=Nat.mod_lt _ (by simp);simp at hi;simp at aN;omega
     simp only[List.reverse_nil,wpOpsIn];exact⟨hn,g,U,ρ,[],by simpa using hd,nK _ _ _,h0,hs,hr,h1 Gi⟩
   | some i =>
     dsimp only;rw[linearise_go_acc,List.reverse_singleton,List.singleton_append];simp only[wpOpsIn];have gr:=h2 i (gw hi);unfold mR at gr;cases ho:ops[i]? with
     | none =>
       rw[ho]at gr;exact ih _ _ g U w ρ a ds h0 hs hG hr hn hd gr
     | some o =>
       rw[ho]at gr;dsimp only at gr ⊢;have oX:o∈ops.toList:=gw (l:=ops.toList) (i:=i) (a:=o) (by rw[mH]; exact ho);have KG:DK nt o=true:=by
        unfold mP at cS;rw[fm]at cS;exact cS o oX
       have Xl:∀ d,o.dst=some d->d<a.tmps.size:=λ d zZ=>by
        simp only[DK,zZ,cb,eg]at KG;rw[hn]; exact KG.1
       have go:∀ g' ad w' x v,Gh.Le g g'->bw g' ad w'->aA g' x v->oc C mu ops I (KQ Q) (zV Q) fuel (listed.setIfInBounds i true) (ρ.fj o.dst x) ad->wpOpsIn (FW fr) 0 C.P ops (sL g0 nt nm ds Q) (Region.linearise.go .any ops fuel (t / (Region.ready .any ops listed).length) (listed.setIfInBounds i true) []) (a.put o.dst v) w':=λ g' ad w' x v hle fp hx hk =>
        ih _ _ g' ad w' (ρ.fj o.dst x) (a.put o.dst v) ds (h0.trans hle) fp (hG.mono hle) ((hr.mono hle).fj Xl hx) (by rw[(qe a o.dst v).2]; exact hn) (by rw[(qe a o.dst v).1]; exact hd) hk
       cases Sx:jm ops ρ o.guard<;>rw[Sx]at gr<;>simp only[ax]at gr
       rename_i b;have hw:=CO hr Sx;cases b
       . rw[if_neg (by rw[hw]; simp)];exact⟨λ _ _=>trivial,go g U w (.aK []) undef (Gh.Le.refl g) hs wU (gr.2 rfl)⟩
       . rw[if_pos hw];refine rJ KG hs hG hr hn (gr.1 rfl) (λ g' ad w' x v hle fp hx hk=>go g' ad w' x v hle fp hx hk.2) ?_ (ds:=ds);intro g' ad w' x v hle fp hx hk;exact⟨hn,g',ad,ρ,[],by simpa using hd,nK _ _ _,h0.trans hle,fp,hr.mono hle,x,v,rfl,hx,hk ρ⟩
theorem bL.BC {id:Nat} {ops:Array Oper} (mu:List Nat) (I:St->Prop) (hm:C.P.follows .mixedOrders=true) (cS:mP nt ops=true) (h:oc C mu ops I (KQ Q) (zV Q) ops.size (Array.replicate ops.size false) ρ U):bL C nt ro (.region id ops true) Q ρ U:=by
 intro g w a fr h1 h2 h3 h4 z8;refine wpIn_region_draw λ t=>?_;simp only[Region.schedule,hm,Bool.true_or,if_true,Region.linearise];have hs:=h1.grow (mz w);exact Pf cS g ops.size t _ g U _ ρ a a.defers (Gh.Le.refl g) hs h2 h3 h4 rfl h
def aC.yv (C:de):aC->AV->Prop
 | .val u,v=>u=v
 | @aC.cond p _ r,v=>p/\r.yv C v
 | .enter f args,v=>Pure C f args v
 | _,_=>False
theorem aC.Rk {K:AV->St->Prop} {Kp:AV->St->Prop}:∀ (r:aC) {v:AV},r.yv C v->K v U->r.wp C U K Kp
 | .val _,_,h,hk=>by simp only[aC.yv]at h; subst h; exact hk
 | @aC.cond _ _ r,_,h,hk=>⟨h.1,aC.Rk r h.2 hk⟩
 | .enter _ _,_,h,hk=>h U _ hk
 | .jG _ _ _,_,h,_=>h.elim
 | .new _ _ _,_,h,_=>h.elim
 | .nf _ _,_,h,_=>h.elim
 | .yield _ _,_,h,_=>h.elim
 | .panic _,_,h,_=>h.elim
 | .bad,_,h,_=>h.elim
def df (B:List Nat) (ar U:St):Prop:=∀ b∈B,U.live b=ar.live b
def Still (C:de) (mu:List Nat) (ops:Array Oper) (B:List Nat) (ar:St) (o:Oper) (ρ:Env) (v:AV):Prop :=
 (jm ops ρ o.guard=.bool true/\quiet o.op=true/\(qA o.op=true->∀ x∈o.op.operands.toList,∀ b∈eE (ρ.ev C x),b∈B)/\(kY C (pH mu o) o.op ρ ar).yv C v)\/(jm ops ρ o.guard=.bool false/\v=.aK [])
theorem Still.put {mu:List Nat} {ops:Array Oper} {B:List Nat} {ar:St} {o:Oper} {v:AV} (h:Still C mu ops B ar o ρ v) {dst:Option Tmp} {u:AV} (hd:∀ d,dst=some d->d∉o.looksAt ops):Still C mu ops B ar o (ρ.fj dst u) v:=by
 unfold Still at h ⊢;rw[Hm ops o hd,OM ops o hd];rcases h with ⟨h1,h2,h3,h4⟩|h
 . refine .inl ⟨h1,h2,λ KK x hx b hb=>h3 KK x hx b ?_,h4⟩;rw[NL λ d zZ hxd=>hd d zZ (by
    subst hxd;exact List.mem_append_left _ (List.mem_filterMap.2 ⟨.tmp d,hx,rfl⟩))]at hb
   exact hb
 . exact .inr h
theorem Still.step {mu:List Nat} {ops:Array Oper} {B:List Nat} {ar:St} {o:Oper} {v:AV} {i:Nat} {K:Env->St->Prop} {Kp:AV->St->Prop} (hi:ops[i]?=some o) (h:Still C mu ops B ar o ρ v) (hI:df B ar U) {I':St->Prop} (Ey:I' U) (hk:K (ρ.fj o.dst v) U) :
 mR C mu ops I' i K Kp ρ U:=by
 unfold mR;rw[hi];dsimp only;rcases h with ⟨h1,h2,h3,h4⟩|⟨h1,rfl⟩
 . rw[h1];refine⟨λ _=>?_,λ h=>by cases h⟩;have e:=abX (C:=C) (ρ:=ρ) (mu:=pH mu o) (ad:=U) (U:=ar) o.op h2 (λ KK x hx b hb=>hI b (h3 KK x (by simpa using hx) b hb));rw[e];exact aC.Rk _ h4 ⟨Ey,hk⟩
 . rw[h1];exact⟨λ h=>(by cases h),λ _=>hk⟩
theorem FA {mu:List Nat} {ops:Array Oper} {I:St->Prop} {i:Nat} {K K':Env->St->Prop} {Kp:AV->St->Prop} (hI:I U) (hk:∀ ρ U,I U->K ρ U->K' ρ U) (h:mR C mu ops I i K Kp ρ U):mR C mu ops I i K' Kp ρ U:=by
 unfold mR at h ⊢;split
 . rename_i ho; rw[ho]at h; exact hk _ _ hI h
 . rename_i o ho;rw[ho]at h;dsimp only at h;cases hg:jm ops ρ o.guard<;>rw[hg]at h<;>simp only[ax]at h ⊢
   exact⟨λ e=>aC.wp_mono (λ v U hv=>⟨hv.1,hk _ _ hv.1 hv.2⟩) _ (h.1 e),λ e=>hk _ _ hI (h.2 e)⟩
theorem Ee {mu:List Nat} {ops:Array Oper} {B:List Nat} {ar:St} {K:Env->St->Prop} {Kp:AV->St->Prop} {i:Nat} {oi:Oper} {v:AV} (hi:ops[i]?=some oi) :
 ∀ (fuel:Nat) (listed:Array Bool) (ρ:Env) (U:St),
  (∀ j oj,ops[j]?=some oj->j≠i->listed.getD j true=false->(∀ e∈oj.after,Region.binds .any e=true->e.on≠i)->oi.apart ops oj=true) ->
  i∈Region.ready .any ops listed->Dn ops listed->Still C mu ops B ar oi ρ v->df B ar U ->
  oc C mu ops (df B ar) K Kp fuel (listed.setIfInBounds i true) (ρ.fj oi.dst v) U->oc C mu ops (df B ar) K Kp (fuel+1) listed ρ U:=by
 intro fuel
 induction fuel with
 | zero =>
   intro listed ρ U _ hr hD hy hI H;refine⟨λ h=>(by rw[h]at hr; cases hr),λ j hj=>?_⟩
   by_cases AX:j=i
   . subst AX; exact hy.step hi hI (.inr hI) H
   . have:=ready_mono hj AX;rw[H.1]at this;cases this
 | succ fuel ih =>
   intro listed ρ U Je hr hD hy hI H;refine⟨λ h=>(by rw[h]at hr; cases hr),λ j hj=>?_⟩
   by_cases AX:j=i
   . subst AX; exact hy.step hi hI (.inr hI) H
   . have h1:=H.2 j (ready_mono hj AX);obtain⟨aeF,oj,p6,ck⟩:=mem_ready.1 hj;have KF:∀ e∈oj.after,Region.binds .any e=true->e.on≠i:=λ e he hb heq=>by
      have h1:=ck e he hb;have h0:=(mem_ready.1 hr).1;rw[heq]at h1;rcases kI i listed.size with h'|h'
      . simp[h']at h0 h1; rw[h0]at h1; cases h1
      . simp[zB h']at h1
     obtain⟨a1,a2,a3⟩:=Oper.apart_spec (Je j oj p6 AX aeF KF);have aeD:∀ k ok,ops[k]?=some ok->k≠i->(listed.setIfInBounds j true).getD k true=false ->
      (∀ e∈ok.after,Region.binds .any e=true->e.on≠i)->oi.apart ops ok=true:=λ k ok hk Aa hun kf=>by
      refine Je k ok hk Aa ?_ kf
      by_cases hjk:j=k
      . subst hjk; exact aeF
      . rw[getD_set_ne true hjk]at hun; exact hun
     have SE:¬ pS ops j=true:=λ agY=>by
      have h1:=EU hD hj agY i (mG.1 hi).1 (Ne.symm AX);have h0:=(mem_ready.1 hr).1;rcases kI i listed.size with h'|h'
      . simp[h']at h0 h1; rw[h0]at h1; cases h1
      . simp[zB h']at h1
     have next:∀ (u:AV) (ad:St),df B ar ad->oc C mu ops (df B ar) K Kp fuel ((listed.setIfInBounds i true).setIfInBounds j true) ((ρ.fj oi.dst v).fj oj.dst u) ad ->
      oc C mu ops (df B ar) K Kp (fuel+1) (listed.setIfInBounds j true) (ρ.fj oj.dst u) ad:=λ u ad Ey hA=>by
      refine ih (listed.setIfInBounds j true) (ρ.fj oj.dst u) ad aeD (ready_mono hr (Ne.symm AX)) (hD.set hj) (hy.put a3) Ey ?_;rw[Array.setIfInBounds_comm _ _ AX,<- TL (d:=oi.dst) (d':=oj.dst) (λ t ht=>a2 t ht)];exact hA
     unfold mR at h1 ⊢;rw[p6]at h1 ⊢;dsimp only at h1 ⊢;rw[Hm ops oj a1,OM ops oj a1]at h1;cases hg:jm ops ρ oj.guard<;>rw[hg]at h1<;>simp only[ax]at h1 ⊢
     exact⟨λ e=>aC.wp_mono (λ u ad hu=>⟨hu.1,next u ad (hu.1.resolve_left SE) hu.2⟩) _ (h1.1 e),λ e=>next _ U hI (h1.2 e)⟩
def jD (ops:Array Oper):List (Bool×Nat)->Array Bool->Bool
 | [],listed=>(Region.ready .any ops listed).isEmpty
 | (true,i)::r,listed=>(Region.ready .any ops listed).contains i&&Region.free .any ops listed i&&jD ops r (listed.setIfInBounds i true)
 | (false,i)::r,listed=>(Region.ready .any ops listed==[i])&&jD ops r (listed.setIfInBounds i true)
def nu (C:de) (mu:List Nat) (ops:Array Oper) (B:List Nat) (ar:St) (K:Env->St->Prop) (Kp:AV->St->Prop):List (Bool×Nat)->Env->St->Prop
 | [],ρ,U=>K ρ U
 | (true,i)::r,ρ,U=>∃ o v,ops[i]?=some o/\Still C mu ops B ar o ρ v/\nu C mu ops B ar K Kp r (ρ.fj o.dst v) U
 | (false,i)::r,ρ,U=>mR C mu ops (Ix ops (df B ar) i) i (nu C mu ops B ar K Kp r) Kp ρ U
theorem X1 {ops:Array Oper} {i:Nat} {listed:Array Bool} (hD:Dn ops listed) (hi:i∈Region.ready .any ops listed) (ha:pS ops i=true):∀ {r:List (Bool×Nat)},jD ops r (listed.setIfInBounds i true)=true->r=[]
 | [],_=>rfl
 | (b,k)::r,h=>by
   exfalso;have hk:k∈Region.ready .any ops (listed.setIfInBounds i true):=by
    cases b with
    | true=>simp only[jD,cb]at h; simpa using h.1.1
    | false=>simp only[jD,cb,beq_iff_eq]at h; rw[h.1]; simp
   obtain⟨h0,ok,cS,_⟩:=mem_ready.1 hk;have AW:=(mem_ready.1 hi).1;have ca:k≠i:=λ e=>by
    subst e;have aN:k<listed.size:=by
     rcases kI k listed.size with h|h
     . exact h
     . simp[zB h]at AW
    simp[aN]at h0
   have h1:=EU hD hi ha k (mG.1 cS).1 ca;rw[getD_set_ne true (Ne.symm ca)]at h0;rcases kI k listed.size with h'|h'
   . simp[h']at h0 h1; rw[h0]at h1; cases h1
   . simp[zB h']at h1
theorem ur {mu:List Nat} {ops:Array Oper} {B:List Nat} {ar:St} {K:Env->St->Prop} {Kp:AV->St->Prop}:∀ (dF:List (Bool×Nat)) (listed:Array Bool) (ρ:Env) (U:St),jD ops dF listed=true->Dn ops listed->(dF=[]\/df B ar U)->nu C mu ops B ar K Kp dF ρ U ->
 oc C mu ops (df B ar) K Kp dF.length listed ρ U
 | [],listed,ρ,U,hp,hD,hI,h=>⟨by simpa [jD] using hp,h⟩
 | (true,i)::r,listed,ρ,U,hp,hD,hI,h=>by
   have hI:=hI.resolve_left (by simp);simp only[jD,cb]at hp;obtain⟨o,v,ho,gr,hr⟩:=h;exact Ee ho r.length listed ρ U (Region.free_spec ho hp.1.2) (by simpa using hp.1.1) hD gr hI (ur r _ _ U hp.2 (hD.set (by simpa using hp.1.1)) (.inr hI) hr)
 | (false,i)::r,listed,ρ,U,hp,hD,hI,h=>by
   have hS:=hI.resolve_left (by simp);simp only[jD,cb,beq_iff_eq]at hp;refine⟨λ h0=>(by rw[hp.1]at h0; cases h0),λ j hj=>?_⟩;have Hs:=hj;rw[hp.1,kn]at hj;subst hj;exact FA (.inr hS) (λ eP ad Ey hr=>ur r _ eP ad hp.2 (hD.set Hs) (Ey.elim (λ ha=>.inl (X1 hD Hs ha hp.2)) .inr) hr) h
theorem bL.u5 {id:Nat} {ops:Array Oper} (mu:List Nat) (B:List Nat) (dF:List (Bool×Nat)) (hm:C.P.follows .mixedOrders=true) (cS:mP nt ops=true) (hp:(jD ops dF (Array.replicate ops.size false)&&(dF.length==ops.size))=true)
 (h:nu C mu ops B U (KQ Q) (zV Q) dF ρ U):bL C nt ro (.region id ops true) Q ρ U:=by
 simp only[cb,beq_iff_eq]at hp;refine bL.BC mu (df B U) hm cS ?_;have:=ur dF _ ρ U hp.1 (Dn.none _ _) (.inr λ _ _=>rfl) h;rw[hp.2]at this;exact this
theorem aC.Eb {K:AV->St->Prop} {Kp zU:AV->St->Prop} (hp:∀ v U,Kp v U->zU v U):∀ (r:aC) {U:St},r.wp C U K Kp->r.wp C U K zU
 | .val _,_,h=>h
 | .jG _ _ _,_,h=>h
 | .new _ _ _,_,h=>h
 | .nf _ _,_,h=>h
 | .enter _ _,_,h=>ae.mono h λ r U hr=>by cases r<;>first|exact hr|exact hp _ _ hr
 | .yield _ _,_,h=>n7.mono h λ r U hr=>by cases r<;>first|exact hr|exact hp _ _ hr
 | .panic _,_,h=>hp _ _ h
 | @aC.cond _ _ r,_,h=>⟨h.1,aC.Eb hp r h.2⟩
 | .bad,_,h=>h
theorem kT {mu:List Nat} {ops:Array Oper} {B:List Nat} {ar:St} {K K':Env->St->Prop} {Kp zU:AV->St->Prop} (hk:∀ ρ U,K ρ U->K' ρ U) (hp:∀ v U,Kp v U->zU v U):∀ (l:List (Bool×Nat)) {ρ:Env} {U:St},nu C mu ops B ar K Kp l ρ U->nu C mu ops B ar K' zU l ρ U
 | [],_,_,h=>hk _ _ h
 | (true,i)::r,ρ,U,h=>by
   obtain⟨o,v,h1,h2,h3⟩:=h;exact⟨o,v,h1,h2,kT hk hp r h3⟩
 | (false,i)::r,ρ,U,h=>by
   simp only[nu,mR]at h ⊢;split
   . rename_i ho; rw[ho]at h; exact kT hk hp r h
   . rename_i o ho;rw[ho]at h;dsimp only at h;cases hg:jm ops ρ o.guard<;>rw[hg]at h<;>simp only[ax]at h ⊢
     exact⟨λ e=>aC.wp_mono (λ v U hv=>⟨hv.1,kT hk hp r hv.2⟩) _ (aC.Eb hp _ (h.1 e)),λ e=>kT hk hp r (h.2 e)⟩
end
end Go.Rip
namespace Go.Rip
open Go.RowKit
def sD (kk:IntKind) (a:Int) (v:AV) (kv:List AV×List AV):List AV×List AV:=iH (.int kk a) v kv.1 kv.2
theorem wG (kk:IntKind) (a b:Int):kP (.int kk a) (.int kk b)=decide (a<b):=by simp[kP]
def Ao (kk:IntKind) (kv:List AV×List AV):Prop:=kv.1.length=kv.2.length/\∀ y∈kv.1,∃ n,y=.int kk n
theorem KW (k v:AV):∀ ks vs:List AV,ks.length=vs.length->(iH k v ks vs).1.length=(iH k v ks vs).2.length
 | [],[],_=>rfl
 | y::ys,w::ws,h=>by
   simp only[iH];split
   . simpa using h
   . simpa using KW k v ys ws (by simpa using h)
 | [],_::_,h=>by simp at h
 | _::_,[],h=>by simp at h
theorem Oi {kk:IntKind} {a:Int} {v:AV} {kv:List AV×List AV} (h:Ao kk kv):Ao kk (sD kk a v kv) :=
 ⟨KW _ _ _ _ h.1,λ y hy=>by
   rcases y3 _ _ y hy with rfl|hy
   . exact⟨a,rfl⟩
   . exact h.2 y hy⟩
theorem HF {kk:IntKind} {a b:Int} {v w:AV} (Ez:a≠b):∀ ks vs:List AV,ks.length=vs.length->(∀ y∈ks,∃ n,y=.int kk n) ->
 iH (.int kk a) v (iH (.int kk b) w ks vs).1 (iH (.int kk b) w ks vs).2=iH (.int kk b) w (iH (.int kk a) v ks vs).1 (iH (.int kk a) v ks vs).2
 | [],[],_,_=>by
   simp only[iH,wG]
   by_cases h:a<b
   . have:¬ b<a:=by omega
     simp[h,this]
   . have:b<a:=by omega
     simp[h,this]
 | y::ys,x::xs,h,hy=>by
   obtain⟨n,rfl⟩:=hy _ (List.mem_cons_self ..);have ih:=HF (v:=v) (w:=w) Ez ys xs (by simpa using h) (λ y hm=>hy y (by simp[hm]));simp only[iH,wG]
   by_cases h1:a<n<;>by_cases h2:b<n<;>by_cases h3:a<b
   all_goals (have h4:b<a\/¬ b<a:=by omega)
   all_goals (rcases h4 with h4|h4<;>simp only[h1,h2,h3,h4,dG,eS,if_true,if_false,bZ,iH,wG]<;>first|omega|(simp only[ih]; done)|rfl|(simp[iH,wG,h1,h2,h3,h4,ih]; done))
 | [],_::_,h,_=>by simp at h
 | _::_,[],h,_=>by simp at h
theorem SR {kk:IntKind} {a b:Int} {v w:AV} (Ez:a≠b) {kv:List AV×List AV} (h:Ao kk kv):sD kk a v (sD kk b w kv)=sD kk b w (sD kk a v kv):=HF Ez kv.1 kv.2 h.1 h.2
structure xe where
 i:Nat
 key:Int
 val:AV
def q9 (kk:IntKind) (l:List xe) (kv:List AV×List AV):List AV×List AV:=l.foldl (λ kv x=>sD kk x.key x.val kv) kv
theorem Ba {kk:IntKind}:∀ (tD:List xe) (x:xe) (tE:List xe) {kv:List AV×List AV},Ao kk kv->(∀ y∈tD,y.key≠x.key)->q9 kk (tD++x::tE) kv=q9 kk (tD++tE) (sD kk x.key x.val kv)
 | [],x,tE,_,_,_=>rfl
 | y::tD,x,tE,kv,h,hk=>by
   show q9 kk (tD++x::tE) (sD kk y.key y.val kv)=q9 kk (tD++tE) (sD kk y.key y.val (sD kk x.key x.val kv));rw[Ba tD x tE (Oi h) (λ z hz=>hk z (by simp[hz])),SR (hk y (by simp)).symm h]
theorem J9 {kk:IntKind} {a:Int}:∀ (ks:List AV) (i:Nat),(∀ y∈ks,∃ n,y=.int kk n/\n≠a)->ng .i (.int kk a) ks i=some none
 | [],_,_=>rfl
 | y::ys,i,h=>by
   obtain⟨n,rfl,hn⟩:=h _ (List.mem_cons_self ..);have ca:(a==n)=false:=by simpa using Ne.symm hn
   simp only[ng,jg,if_true,ca,bZ,if_false];exact J9 ys (i+1) λ y hy=>h y (by simp[hy])
theorem set_set (U:St) (b:Nat) (x y:Live):(U.set b x).set b y=U.set b y:=by
 simp only[St.set,St.mk.injEq,and_true]; funext q; split<;>rfl
theorem aeY (U:St) (b:Nat) (ks vs:List AV):(U.set b (.mp ks vs)).mp b=some (ks,vs):=by simp[St.mp,St.set]
section
variable {C:de} {mu:List Nat} {ops:Array Oper} {B:List Nat} {ar:St} {K:Env->St->Prop} {Kp:AV->St->Prop}
def aga (C:de) (ops:Array Oper) (ρ:Env) (t:TypeId) (m:Nat) (kk:IntKind) (listed:Array Bool) (x:xe):Prop:=∃ o v,ops[x.i]?=some o/\o.op=.insert t (.tmp m) (.const (.int kk x.key)) v/\o.dst=none/\o.guard=none/\ρ.ev C v=x.val /\
 ∀ e∈o.after,Region.binds .any e=true->listed.getD e.on false=true
def acy (ops:Array Oper) (listed:Array Bool) (l:List xe):Prop:=∀ j o,ops[j]?=some o->listed.getD j true=false->(∃ x∈l,x.i=j)\/∀ x∈l,∃ e∈o.after,Region.binds .any e=true/\e.on=x.i
theorem abn {t:TypeId} {m:Nat} {kk:IntKind} {e:TypeId} (ht:sH C.P t=some (.i,e)) {id:Nat} {ρ:Env} (hm:ρ.get m=.mp id) (hB:id∉B) (mm:Nat):∀ (n:Nat) (l:List xe) (listed:Array Bool) (U:St) (kv:List AV×List AV),l.length=n ->
 (∀ x∈l,listed.getD x.i true=false)->acy ops listed l->l.Pairwise (λ x y=>x.i≠y.i/\x.key≠y.key)->(∀ x∈l,aga C ops ρ t m kk listed x)->df B ar U->Ao kk kv ->
 (∀ x∈l,.int kk x.key∉kv.1)->(∀ ov:Array Bool,ov.size=listed.size->(∀ j,ov.getD j true=false↔listed.getD j true=false/\¬ ∃ x∈l,x.i=j)->oc C mu ops (df B ar) K Kp mm ov ρ (U.set id (.mp (q9 kk l kv).1 (q9 kk l kv).2))) ->
 oc C mu ops (df B ar) K Kp (n+mm) listed ρ (U.set id (.mp kv.1 kv.2)):=by
 intro n
 induction n with
 | zero =>
   intro l listed U kv hl EC xZ hp cS hI CT kf hK;obtain rfl:l=[]:=List.eq_nil_of_length_eq_zero hl;rw[db];exact hK listed rfl λ j=>by simp
 | succ n ih =>
   intro l listed U kv hl EC xZ hp cS hI CT kf hK;have KJ:∀ x∈l,x.i∈Region.ready .any ops listed:=λ x hx=>by
    obtain⟨o,v,h1,_,_,_,_,h6⟩:=cS x hx;exact mem_ready.2 ⟨EC x hx,o,h1,h6⟩
   rw[show n+1+mm=(n+mm)+1 by omega];refine⟨λ h=>?_,λ j hj=>?_⟩
   . obtain⟨x,l',rfl⟩:∃ x l',l=x::l':=by cases l with|nil=>simp at hl|cons x l'=>exact⟨x,l',rfl⟩
     have:=KJ x (by simp);rw[h]at this; cases this
   . obtain⟨x,hx,rfl⟩:∃ x∈l,x.i=j:=by
      obtain⟨h0,oj,p6,ck⟩:=mem_ready.1 hj;rcases xZ j oj p6 h0 with h|h
      . exact h
      . exfalso;obtain⟨x,l',rfl⟩:∃ x l',l=x::l':=by cases l with|nil=>simp at hl|cons x l'=>exact⟨x,l',rfl⟩
        obtain⟨ed,he,hb,EI⟩:=h x (by simp);have k1:=ck ed he hb;rw[EI]at k1;have k2:=EC x (by simp);rcases kI x.i listed.size with h'|h'
        . simp[h']at k1 k2; rw[k2]at k1; cases k1
        . simp[zB h']at k1
     obtain⟨o,v,h1,h2,h3,h4,h5,h6⟩:=cS x hx;obtain⟨tD,tE,rfl⟩:=List.append_of_mem hx;have hpa:=hp;rw[List.pairwise_append]at hp;obtain⟨p1,p2,p3⟩:=hp;rw[List.pairwise_cons]at p2;have PZ:ng .i (.int kk x.key) kv.1 0=some none:=J9 _ _ λ y hy=>by
      obtain⟨n,rfl⟩:=CT.2 y hy;exact⟨n,rfl,λ e=>kf x hx (by rw[<- e]; exact hy)⟩
     unfold mR;rw[h1];dsimp only;rw[h4,h2,h3];refine⟨λ _=>?_,λ h=>by cases h⟩;have hop:kY C (pH mu o) (.insert t (.tmp m) (.const (.int kk x.key)) v) ρ (U.set id (.mp kv.1 kv.2))=.jG (.aK []) id (.mp (sD kk x.key x.val kv).1 (sD kk x.key x.val kv).2):=by
      show sI C.P t (ρ.ev C (.tmp m)) (ρ.ev C (.const (.int kk x.key))) (ρ.ev C v) _=_;rw[h5,show ρ.ev C (.tmp m)=.mp id from hm,show ρ.ev C (.const (.int kk x.key))=.int kk x.key from rfl];simp only[sI,ht,aeY,PZ,rn,sD]
     rw[hop];refine⟨.inr λ b hb=>?_,?_⟩
     . have ca:b≠id:=λ e=>hB (e▸hb);rw[set_set];simp only[St.set,if_neg ca];exact hI b hb
     . show oc C mu ops (df B ar) K Kp (n+mm) (listed.setIfInBounds x.i true) ρ _;rw[set_set];have aN:x.i<listed.size:=by
        have h0:=EC x hx;rcases kI x.i listed.size with h|h
        . exact h
        . simp[zB h]at h0
       have ZS:(listed.setIfInBounds x.i true).getD x.i true=true:=by simp[aN]
       have Gk:∀ y∈tD++tE,y∈tD++x::tE:=λ y hy=>by
        simp only[fT,cK]at hy ⊢;rcases hy with hy|hy
        . exact .inl hy
        . exact .inr (.inr hy)
       have ca:∀ y∈tD++tE,x.i≠y.i:=λ y hy=>by
        rcases fT.1 hy with hy|hy
        . exact (p3 y hy x (by simp)).1.symm
        . exact (p2.1 y hy).1
       refine ih (tD++tE) (listed.setIfInBounds x.i true) U (sD kk x.key x.val kv) ?_ ?_ ?_ ?_ ?_ hI (Oi CT) ?_ ?_
       . simp at hl ⊢; omega
       . intro y hy;rw[getD_set_ne true (ca y hy)];exact EC y (Gk y hy)
       . intro j oj p6 h0;have hjx:x.i≠j:=λ e=>by subst e; rw[ZS]at h0; cases h0
         rw[getD_set_ne true hjx]at h0;rcases xZ j oj p6 h0 with ⟨y,hy,rfl⟩|h
         . left;refine⟨y,?_,rfl⟩;simp only[fT,cK]at hy ⊢;rcases hy with hy|rfl|hy
           . exact .inl hy
           . exact absurd rfl hjx
           . exact .inr hy
         . right;exact λ y hy=>h y (Gk y hy)
       . rw[List.pairwise_append];exact⟨p1,p2.2,λ y hy z hz=>p3 y hy z (by simp[hz])⟩
       . intro y hy;obtain⟨o',v',q1,q2,q3,q4,q5,q6⟩:=cS y (by simp only[fT,cK]at hy ⊢; rcases hy with hy|hy; exact .inl hy; exact .inr (.inr hy))
         exact⟨o',v',q1,q2,q3,q4,q5,λ ed he hb=>getD_set_true (q6 ed he hb)⟩
       . intro y hy oX;rcases y3 _ _ _ oX with e|e
         . simp only[AV.int.injEq,true_and]at e;rcases fT.1 hy with hy|hy
           . exact (p3 y hy x (by simp)).2 e
           . exact (p2.1 y hy).2 e.symm
         . exact kf y (by simp only[fT,cK]at hy ⊢; rcases hy with hy|hy; exact .inl hy; exact .inr (.inr hy)) e
       . rw[<- Ba tD x tE CT (λ y hy=>(p3 y hy x (by simp)).2)];intro ov fp qW;refine hK ov (by rw[fp]; simp) λ j=>?_;rw[qW j]
         by_cases e:x.i=j
         . subst e;rw[ZS];constructor
           . rintro⟨h,_⟩; cases h
           . rintro⟨_,h⟩; exact absurd ⟨x,by simp,rfl⟩ h
         . rw[getD_set_ne true e];refine and_congr_right λ _=>not_congr ?_;constructor
           . rintro⟨y,hy,rfl⟩; exact⟨y,Gk y hy,rfl⟩
           . rintro⟨y,hy,rfl⟩;refine⟨y,?_,rfl⟩;simp only[fT,cK]at hy ⊢;rcases hy with hy|rfl|hy
             . exact .inl hy
             . exact absurd rfl e
             . exact .inr hy
def p9 (ops:Array Oper):List (Bool×Nat)->Array Bool->Option (Array Bool)
 | [],listed=>some listed
 | (true,i)::r,listed=>cond ((Region.ready .any ops listed).contains i&&Region.free .any ops listed i) (p9 ops r (listed.setIfInBounds i true)) none
 | (false,i)::r,listed=>cond (Region.ready .any ops listed==[i]&&!pS ops i) (p9 ops r (listed.setIfInBounds i true)) none
theorem zq {m:Nat} {su:Array Bool} {K0:Env->St->Prop} (Kq:∀ ρ U,Dn ops su->df B ar U->K0 ρ U->oc C mu ops (df B ar) K Kp m su ρ U):∀ (dF:List (Bool×Nat)) (listed:Array Bool) (ρ:Env) (U:St),p9 ops dF listed=some su->Dn ops listed->df B ar U->nu C mu ops B ar K0 Kp dF ρ U ->
 oc C mu ops (df B ar) K Kp (dF.length+m) listed ρ U
 | [],listed,ρ,U,hp,hD,hI,h=>by
   simp only[p9,iI]at hp;subst hp;simpa using Kq ρ U hD hI h
 | (true,i)::r,listed,ρ,U,hp,hD,hI,h=>by
   simp only[p9]at hp;cases hc:((Region.ready .any ops listed).contains i&&Region.free .any ops listed i) with
   | false=>rw[hc]at hp; cases hp
   | true =>
     rw[hc]at hp;simp only[cb]at hc;obtain⟨o,v,ho,gr,hr⟩:=h;have:=Ee ho (r.length+m) listed ρ U (Region.free_spec ho hc.2) (by simpa using hc.1) hD gr hI (zq Kq r _ _ U hp (hD.set (by simpa using hc.1)) hI hr);rw[show ((true,i)::r).length+m=r.length+m+1 by simp; omega];exact this
 | (false,i)::r,listed,ρ,U,hp,hD,hI,h=>by
   simp only[p9]at hp;cases hc:(Region.ready .any ops listed==[i]&&!pS ops i) with
   | false=>rw[hc]at hp; cases hp
   | true =>
     rw[hc]at hp;simp only[cb,beq_iff_eq,Bool.not_eq_true']at hc;obtain⟨hc,SE⟩:=hc;rw[show ((false,i)::r).length+m=r.length+m+1 by simp; omega];refine⟨λ h0=>(by rw[hc]at h0; cases h0),λ j hj=>?_⟩;have Hs:=hj;rw[hc,kn]at hj;subst hj;exact FA (.inr hI) (λ eP ad Ey hr=>zq Kq r _ eP ad hp (hD.set Hs) (Ey.resolve_left (by rw[SE]; simp)) hr) h
structure pC where
 t:TypeId
 m:Nat
 kk:IntKind
 l:List Nat
def Qc (I:pC) (o:Oper):Option (Int×Operand):=match o.op,o.dst,o.guard with
 | .insert t (.tmp m) (.const (.int kk a)) v,none,none=>cond (Nat.beq t I.t&&(Nat.beq m I.m&&decide (kk=I.kk))) (some (a,v)) none
 | _,_,_=>none
def om (ops:Array Oper) (I:pC) (i:Nat):Option (Int×Operand):=(ops[i]?).bind (Qc I)
def I7 (listed:Array Bool) (o:Oper):Bool:=o.after.toList.all λ e=>!Region.binds .any e||listed.getD e.on false
def F4 (ops:Array Oper) (I:pC) (listed:Array Bool):Bool:=(List.range ops.size).all λ j=>listed.getD j true||(I.l.contains j||(match ops[j]? with
 | some o=>I.l.all λ i=>o.after.toList.any λ e=>Region.binds .any e&&Nat.beq e.on i
 | none=>true))
def sa (ops:Array Oper) (I:pC) (listed:Array Bool):Bool :=
 F4 ops I listed&&(I.l.all (λ i=>!listed.getD i true)&&(Nat.beq listed.size ops.size&&(I.l.all (λ i=>Nat.blt i ops.size&&((om ops I i).isSome&&(match ops[i]? with|some o=>I7 listed o|none=>false)))
  && (decide I.l.Nodup&&decide (I.l.map λ i=>((om ops I i).map (·.1)).getD 0).Nodup))))
def iz (listed:Array Bool) (l:List Nat):Array Bool:=l.foldl (λ a i=>a.setIfInBounds i true) listed
theorem xz:∀ (l:List Nat) (a:Array Bool),(iz a l).size=a.size
 | [],_=>rfl
 | i::l,a=>by
   show (iz (a.setIfInBounds i true) l).size=_;rw[xz l]; simp
theorem zG:∀ (l:List Nat) (a:Array Bool) (j:Nat),(iz a l).getD j true=false↔a.getD j true=false/\j∉l
 | [],_,_=>by simp[iz]
 | i::l,a,j=>by
   show (iz (a.setIfInBounds i true) l).getD j true=false↔_;rw[zG l]
   by_cases e:i=j
   . subst e;have:(a.setIfInBounds i true).getD i true=true:=by
      by_cases h:i<a.size
      . simp[h]
      . simp[zB (Nat.le_of_not_lt h)]
     rw[this]; simp
   . rw[getD_set_ne true e]; simp[Ne.symm e]
def pz (C:de) (ops:Array Oper) (ρ:Env) (I:pC):List xe:=I.l.filterMap λ i=>(om ops I i).map λ p=>⟨i,p.1,ρ.ev C p.2⟩
def Qb (C:de) (ops:Array Oper) (B:List Nat) (I:pC) (K:Env->St->Prop) (ρ:Env) (U:St):Prop :=
 ∃ id,ρ.get I.m=.mp id/\U.mp id=some ([],[])/\id∉B/\K ρ (U.set id (.mp (q9 I.kk (pz C ops ρ I) ([],[])).1 (q9 I.kk (pz C ops ρ I) ([],[])).2))
theorem Qd {I:pC} {o:Oper} {a:Int} {v:Operand} (h:Qc I o=some (a,v)):o.op=.insert I.t (.tmp I.m) (.const (.int I.kk a)) v/\o.dst=none/\o.guard=none:=by
 unfold Qc at h;split at h
 . rename_i t m kk a' v' h1 h2 h3;cases hc:(Nat.beq t I.t&&(Nat.beq m I.m&&decide (kk=I.kk))) with
   | false=>rw[hc]at h; cases h
   | true =>
     rw[hc]at h;simp only[cb,eg]at hc;obtain⟨e1,e2,e3⟩:=hc;have e1:=fP e1;have e2:=fP e2;simp only[cond_true,iI,hY]at h;obtain⟨rfl,rfl⟩:=h;exact⟨by rw[h1,e1,e2,e3],h2,h3⟩
 . cases h
theorem Nk {U:St} {id:Nat} {kv:List AV×List AV} (h:U.mp id=some kv):U.set id (.mp kv.1 kv.2)=U:=by
 have:=St.re.1 h;simp only[St.set];cases U with
 | mk live nb =>
   simp only[St.mk.injEq,and_true];funext q;split
   . rename_i e; subst e; exact this.symm
   . rfl
theorem Dn.iz {I:pC} {listed:Array Bool} (hD:Dn ops listed) (hc:sa ops I listed=true):Dn ops (Go.Rip.iz listed I.l):=by
 simp only[sa,cb,fm]at hc;obtain⟨h0,h1,h2,h3,_⟩:=hc;have h2:=fP h2;have mono:∀ (l:List Nat) (a:Array Bool) (j:Nat),a.getD j false=true->(Go.Rip.iz a l).getD j false=true:=λ l=>by
  induction l with
  | nil=>exact λ a j h=>h
  | cons i l ih=>exact λ a j h=>ih _ j (getD_set_true h)
 intro m o ho hl e he hb
 by_cases hm:m∈I.l
 . have:=(h3 m hm).2.2;rw[ho]at this;simp only[I7,fm,kJ]at this;have:=this e (by simpa using he);rw[hb]at this;exact mono _ _ _ (by simpa using this)
 . have aN:m<listed.size:=by rw[h2]; exact (mG.1 ho).1
   have hlm:listed.getD m false=true:=by
    cases hh:listed.getD m true with
    | false =>
      have k:=(zG I.l listed m).2 ⟨hh,hm⟩;have hs:m<(Go.Rip.iz listed I.l).size:=by rw[xz]; exact aN
      simp[hs]at k hl;rw[k]at hl; cases hl
    | true=>simp[aN]at hh ⊢; exact hh
   exact mono _ _ _ (hD m o ho hlm e he hb)
theorem SS {I:pC} {listed:Array Bool} {e:TypeId} {mm:Nat} {K1:Env->St->Prop} (ht:sH C.P I.t=some (.i,e)) (hc:sa ops I listed=true)
 (hK1:∀ ρ U,Dn ops (iz listed I.l)->df B ar U->K1 ρ U->oc C mu ops (df B ar) K Kp mm (iz listed I.l) ρ U):∀ ρ U,Dn ops listed->df B ar U->Qb C ops B I K1 ρ U->oc C mu ops (df B ar) K Kp (I.l.length+mm) listed ρ U:=by
 rintro ρ U hD hI ⟨id,hm,KD,hB,hK⟩;have hDs:=hD.iz hc;simp only[sa,cb,fm,eg,Bool.not_eq_true']at hc;obtain⟨h0,h1,h2,h3,h4,h5⟩:=hc;have h2:=fP h2;have P7:∀ i∈I.l,∃ a v,om ops I i=some (a,v):=λ i hi=>by
  have:=(h3 i hi).2.1;obtain⟨p,hp⟩:=Option.isSome_iff_exists.1 this;exact⟨p.1,p.2,hp⟩
 have oX:∀ x,x∈pz C ops ρ I↔∃ i∈I.l,∃ a v,om ops I i=some (a,v)/\x=⟨i,a,ρ.ev C v⟩:=λ x=>by
  simp only[pz,List.mem_filterMap,qN];constructor
  . rintro⟨i,hi,⟨a,v⟩,hp,rfl⟩; exact⟨i,hi,a,v,hp,rfl⟩
  . rintro⟨i,hi,a,v,hp,rfl⟩; exact⟨i,hi,(a,v),hp,rfl⟩
 have uO:∀ j,(∃ x∈pz C ops ρ I,x.i=j)↔j∈I.l:=λ j=>by
  constructor
  . rintro⟨x,hx,rfl⟩;obtain⟨i,hi,a,v,hp,rfl⟩:=(oX _).1 hx;exact hi
  . intro hj;obtain⟨a,v,hp⟩:=P7 j hj;exact⟨_,(oX _).2 ⟨j,hj,a,v,hp,rfl⟩,rfl⟩
 rw[<- Nk KD];have hlen:(pz C ops ρ I).length=I.l.length:=by
  have:∀ l:List Nat,(∀ i∈l,∃ a v,om ops I i=some (a,v))->(l.filterMap λ i=>(om ops I i).map λ p=>(⟨i,p.1,ρ.ev C p.2⟩:xe)).length=l.length:=λ l=>by
   induction l with
   | nil=>intro _; rfl
   | cons i l ih =>
     intro h;obtain⟨a,v,hp⟩:=h i (by simp);simp only[List.filterMap_cons,hp,Option.map_some,eX,ih λ j hj=>h j (by simp[hj])]
  exact this _ P7
 have hpw:(pz C ops ρ I).Pairwise (λ x y=>x.i≠y.i/\x.key≠y.key):=by
  have:∀ l:List Nat,(∀ i∈l,∃ a v,om ops I i=some (a,v))->l.Nodup->(l.map λ i=>((om ops I i).map (·.1)).getD 0).Nodup->(l.filterMap λ i=>(om ops I i).map λ p=>(⟨i,p.1,ρ.ev C p.2⟩:xe)).Pairwise (λ x y=>x.i≠y.i/\x.key≠y.key):=λ l=>by
   induction l with
   | nil=>intro _ _ _; exact List.Pairwise.nil
   | cons i l ih =>
     intro h hn hk;obtain⟨a,v,hp⟩:=h i (by simp);rw[List.nodup_cons]at hn;rw[dH,List.nodup_cons]at hk;simp only[List.filterMap_cons,hp,Option.map_some];refine List.Pairwise.cons (λ y hy=>?_) (ih (λ j hj=>h j (by simp[hj])) hn.2 hk.2);rw[List.mem_filterMap]at hy;obtain⟨j,hj,hjy⟩:=hy;rw[qN]at hjy;obtain⟨p,yb,rfl⟩:=hjy;refine⟨λ e=>hn.1 (by have e:i=j:=e; rw[e]; exact hj),λ e=>hk.1 ?_⟩;have e:a=p.1:=e;refine List.mem_map.2 ⟨j,hj,?_⟩;rw[yb,hp]; simp[e]
  exact this _ P7 h4 h5
 refine abn (kk:=I.kk) ht hm hB mm _ (pz C ops ρ I) listed U ([],[]) hlen ?_ ?_ hpw ?_ hI ⟨rfl,λ y hy=>by cases hy⟩ (λ x hx=>by simp) ?_
 . intro x hx;exact h1 x.i ((uO x.i).1 ⟨x,hx,rfl⟩)
 . intro j o ho hj;have aN:j<ops.size:=(mG.1 ho).1;simp only[F4,fm,List.mem_range,kJ]at h0;have:=h0 j aN;rw[ho,hj]at this;rcases this with h|h|h
   . cases h
   . left; exact (uO j).2 (by simpa using h)
   . right;intro x hx;simp only[fm]at h;have:=h x.i ((uO x.i).1 ⟨x,hx,rfl⟩);rw[List.any_eq_true]at this;obtain⟨ed,he,hb⟩:=this;simp only[cb]at hb;exact⟨ed,by simpa using he,hb.1,fP hb.2⟩
 . intro x hx;obtain⟨i,hi,a,v,hp,rfl⟩:=(oX _).1 hx;unfold om at hp;rw[Option.bind_eq_some_iff]at hp;obtain⟨o,ho,hp⟩:=hp;obtain⟨q1,q2,q3⟩:=Qd hp;refine⟨o,v,ho,q1,q2,q3,rfl,λ ed he hb=>?_⟩;have:=(h3 i hi).2.2;rw[ho]at this;simp only[I7,fm,kJ]at this;have:=this ed (by simpa using he);rw[hb]at this;simpa using this
 . intro ov fp qW;have e:ov=iz listed I.l:=by
    apply Array.ext (by rw[xz,fp]);intro j s9 pN;have k1:=qW j;have k2:=zG I.l listed j;rw[uO]at k1;have k3:ov.getD j true=false↔(iz listed I.l).getD j true=false:=k1.trans k2.symm;have e1:ov.getD j true=ov[j]:=by simp[s9]
    have e2:(iz listed I.l).getD j true=(iz listed I.l)[j]:=by simp[pN]
    rw[e1,e2]at k3;cases h1:ov[j]<;>cases h2:(iz listed I.l)[j]<;>simp_all
   rw[e];refine hK1 ρ _ hDs ?_ hK;intro b hb;have ca:b≠id:=λ e=>hB (e▸hb);simp only[St.set,if_neg ca];exact hI b hb
def wS (P:Program) (ops:Array Oper) (dF:List (Bool×Nat)) (I:pC) (post:List (Bool×Nat)):Bool :=
 (match p9 ops dF (Array.replicate ops.size false) with|some l=>sa ops I l&&jD ops post (iz l I.l)|none=>false)&&(Nat.beq (dF.length+(I.l.length+post.length)) ops.size&&(match sH P I.t with|some (.i,_)=>true|_=>false))
theorem bL.TO {nt id:Nat} {ro:Ro} {Q:Ex->Env->St->Prop} {ρ:Env} {U:St} (dF:List (Bool×Nat)) (I:pC) (post:List (Bool×Nat)) (hm:C.P.follows .mixedOrders=true) (cS:mP nt ops=true) (hp:wS C.P ops dF I post=true)
 (h:nu C mu ops B U (Qb C ops B I (nu C mu ops B U (KQ Q) (zV Q) post)) (zV Q) dF ρ U):bL C nt ro (.region id ops true) Q ρ U:=by
 simp only[wS,cb]at hp;obtain⟨h1,h2,h3⟩:=hp;have h2:=fP h2;split at h3
 . rename_i e ht;split at h1
   . rename_i l hl;rw[cb]at h1;refine bL.BC mu (df B U) hm cS ?_;have:=zq (SS ht h1.1 (λ eP ad hD' Ey hk=>ur post _ eP ad h1.2 hD' (.inr Ey) hk)) dF _ ρ U hl (Dn.none _ _) (λ _ _=>rfl) h;rw[h2]at this;exact this
   . cases h1
 . cases h3
end
end Go.Rip
namespace Go.Rip
open Go.RowKit
structure Row where
 d:Nat
 l:Nat
 a:Nat
def Po:Option Nat->Nat
 | some d=>2 ^ d
 | none=>0
def rp:List Nat->Nat
 | []=>0
 | d::l=>Nat.lor (2 ^ d) (rp l)
theorem eL (k:Nat):∀ l:List Nat,(rp l).testBit k=true↔k∈l
 | []=>by simp[rp]
 | d::l=>by
   show (2 ^ d ||| rp l).testBit k=true↔_;rw[Nat.testBit_or,Nat.testBit_two_pow,kJ,eL k l];simp[eq_comm]
theorem lg (k:Nat) (o:Option Nat):(Po o).testBit k=true↔o=some k:=by
 cases o with
 | none=>simp[Po]
 | some d=>simp[Po,Nat.testBit_two_pow]
def Aq (o:Oper):List Nat:=(o.after.toList.filter λ e=>Region.binds .any e).map (·.on)
def rowOf (ops:Array Oper) (o:Oper):Row:=⟨Po o.dst,rp (o.looksAt ops),rp (Aq o)⟩
def pc (a b:Nat):Bool:=Nat.beq (Nat.land a b) a
def Pz (a b:Nat):Bool:=Nat.beq (Nat.land a b) 0
theorem uw {a b:Nat} (h:pc a b=true) (k:Nat) (hk:a.testBit k=true):b.testBit k=true:=by
 have e:a &&& b=a:=fP h;have:=congrArg (λ n=>n.testBit k) e;simp only[Nat.testBit_and,hk,Bool.true_and]at this;exact this
theorem rS {a b:Nat} (h:Pz a b=true) (k:Nat) (hk:a.testBit k=true):¬ b.testBit k=true:=by
 have e:a &&& b=0:=fP h;have:=congrArg (λ n=>n.testBit k) e;simp only[Nat.testBit_and,hk,Bool.true_and,Nat.zero_testBit]at this;simp[this]
def hasB (m i:Nat):Bool:=Nat.beq (Nat.land (Nat.shiftRight m i) 1) 1
theorem py (m i:Nat):hasB m i=m.testBit i:=by
 have e:Nat.land (Nat.shiftRight m i) 1=1 &&& (m >>> i):=Nat.and_comm _ _;unfold hasB Nat.testBit;rw[e];cases h:Nat.beq (1 &&& m >>> i) 1 with
 | true=>have:=fP h; rw[this]; rfl
 | false =>
   have h1:(1 &&& m >>> i)≠1:=λ e=>by rw[e]at h; simp at h
   have h2:(1 &&& m >>> i)=0:=by
    have:1 &&& (m >>> i)=(m >>> i)%2:=Nat.one_and_eq_mod_two _;omega
   rw[h2]; rfl
def Jn (i:Nat) (x y:Row):Bool:=hasB y.a i||(Pz x.d y.l&&(Pz x.d y.d&&Pz y.d x.l))
def Dm (done i:Nat) (x:Row):List Row->Nat->Bool
 | [],_=>true
 | y::r,j=>(Nat.beq j i||(hasB done j||Jn i x y))&&Dm done i x r (j+1)
def Dl (done i:Nat):List Row->Nat->Bool
 | [],_=>true
 | y::r,j=>(Nat.beq j i||(hasB done j||!pc y.a done))&&Dl done i r (j+1)
def zt (rows:List Row) (n:Nat):List (Bool×Nat)->Nat->Bool
 | [],done=>Nat.beq done (2 ^ n-1)
 | (true,i)::r,done=>match rows[i]? with
   | some x=>!hasB done i&&(pc x.a done&&(Dm done i x rows 0&&zt rows n r (Nat.lor done (2 ^ i))))
   | none=>false
 | (false,i)::r,done=>match rows[i]? with
   | some x=>!hasB done i&&(pc x.a done&&(Dl done i rows 0&&zt rows n r (Nat.lor done (2 ^ i))))
   | none=>false
theorem As {done i:Nat} {x:Row}:∀ {l:List Row} {j:Nat},Dm done i x l j=true->∀ k y,l[k]?=some y->(j+k=i\/done.testBit (j+k)=true\/Jn i x y=true)
 | [],_,_,k,y,hy=>by simp at hy
 | z::r,j,h,k,y,hy=>by
   simp only[Dm,cb,kJ,py]at h;cases k with
   | zero =>
     simp at hy; subst hy;rcases h.1 with h|h|h
     . exact .inl (fP h)
     . exact .inr (.inl h)
     . exact .inr (.inr h)
   | succ k =>
     have:=As h.2 k y (by simpa using hy);rw[show j+(k+1)=j+1+k by omega]; exact this
theorem Ar {done i:Nat}:∀ {l:List Row} {j:Nat},Dl done i l j=true->∀ k y,l[k]?=some y->(j+k=i\/done.testBit (j+k)=true\/pc y.a done=false)
 | [],_,_,k,y,hy=>by simp at hy
 | z::r,j,h,k,y,hy=>by
   simp only[Dl,cb,kJ,py,Bool.not_eq_true']at h;cases k with
   | zero =>
     simp at hy; subst hy;rcases h.1 with h|h|h
     . exact .inl (fP h)
     . exact .inr (.inl h)
     . exact .inr (.inr h)
   | succ k =>
     have:=Ar h.2 k y (by simpa using hy);rw[show j+(k+1)=j+1+k by omega]; exact this
def jy (n:Nat) (listed:Array Bool) (done:Nat):Prop:=listed.size=n/\∀ k,k<n->listed[k]?=some (done.testBit k)
section
variable {ops:Array Oper} {listed:Array Bool} {done:Nat}
theorem jy.get (h:jy ops.size listed done) {k:Nat} (hk:k<ops.size) (d:Bool):listed.getD k d=done.testBit k:=by
 have:=h.2 k hk;simp[this]
theorem jy.out (h:jy ops.size listed done) {k:Nat} (hk:¬ k<ops.size) (d:Bool):listed.getD k d=d:=by
 have:listed[k]?=none:=zB (by rw[h.1]; omega);simp[this]
theorem jy.set (h:jy ops.size listed done) (i:Nat):jy ops.size (listed.setIfInBounds i true) (Nat.lor done (2 ^ i)):=by
 refine⟨by simp[h.1],λ k hk=>?_⟩;show _=some ((done ||| 2 ^ i).testBit k);rw[Nat.testBit_or,Nat.testBit_two_pow]
 by_cases e:i=k
 . subst e;have:i<listed.size:=by rw[h.1]; exact hk
   simp[Array.getElem?_setIfInBounds,this]
 . rw[Array.getElem?_setIfInBounds_ne e,h.2 k hk];simp[e]
theorem zE {i:Nat} {x:Row} (h:(ops.toList.map (rowOf ops))[i]?=some x):∃ o,ops[i]?=some o/\x=rowOf ops o:=by
 rw[oA,qN]at h;obtain⟨o,ho,e⟩:=h;exact⟨o,by simpa using ho,e.symm⟩
theorem ve {o:Oper} {k:Nat}:k∈Aq o↔∃ e∈o.after,Region.binds .any e=true/\e.on=k:=by
 simp[Aq,and_assoc]
theorem se (h:jy ops.size listed done) {j:Nat} {o:Oper} (ho:ops[j]?=some o):j∈Region.ready .any ops listed↔done.testBit j=false/\∀ k,k∈Aq o->k<ops.size/\done.testBit k=true:=by
 have hj:j<ops.size:=(mG.1 ho).1;rw[mem_ready,h.get hj];refine and_congr_right λ _=>⟨?_,?_⟩
 . rintro⟨o',ZI,ck⟩ k hk;rw[ho]at ZI; cases ZI;obtain⟨e,he,hb,rfl⟩:=ve.1 hk;have:=ck e he hb
   by_cases hk:e.on<ops.size
   . rw[h.get hk]at this; exact⟨hk,this⟩
   . rw[h.out hk]at this; cases this
 . intro ck;refine⟨o,ho,λ e he hb=>?_⟩;obtain⟨hk,ht⟩:=ck e.on (ve.2 ⟨e,he,hb,rfl⟩);rw[h.get hk]; exact ht
theorem IW {i:Nat} {o:Oper} (hm:jy ops.size listed done) (ho:ops[i]?=some o) (h3:Dm done i (rowOf ops o) (ops.toList.map (rowOf ops)) 0=true):Region.free .any ops listed i=true:=by
 simp only[Region.free,ho,fm,List.mem_range,kJ];intro j hj;obtain⟨oj,p6⟩:∃ oj,ops[j]?=some oj:=⟨ops[j],by simp[hj]⟩;rw[p6];have hy:(ops.toList.map (rowOf ops))[j]?=some (rowOf ops oj):=by
  rw[oA]; simp[p6]
 rcases As h3 j _ hy with e|e|e
 . left; left; simp at e; simp[e]
 . left; right; rw[hm.get hj]; simpa using e
 . right;simp only[Jn,kJ,cb,py]at e;show ((oj.after.any λ e=>Region.binds .any e&&e.on==i)||o.apart ops oj)=true;rw[kJ];rcases e with e|⟨e1,e2,e3⟩
   . left;have:=(eL i _).1 e;obtain⟨ed,he,hb,EI⟩:=ve.1 this;rw[Array.any_eq_true'];exact⟨ed,he,by simp[hb,EI]⟩
   . right;have k1:∀ d,o.dst=some d->d∉oj.looksAt ops:=λ d hd hm=>rS e1 d ((lg d _).2 hd) ((eL d _).2 hm);have k2:∀ d,o.dst=some d->oj.dst≠some d:=λ d hd hm=>rS e2 d ((lg d _).2 hd) ((lg d _).2 hm);have k3:∀ d,oj.dst=some d->d∉o.looksAt ops:=λ d hd hm=>rS e3 d ((lg d _).2 hd) ((eL d _).2 hm);unfold Oper.apart;cases CP:o.dst<;>cases qV:oj.dst<;>simp only[cb,Bool.not_eq_true',bne_iff_ne,ne_eq,Bool.and_self,and_self,true_and,and_true]
     . rename_i d; simpa using k3 d qV
     . rename_i d; exact⟨by simpa using k1 d CP,by simp⟩
     . rename_i d d';refine⟨⟨by simpa using k1 d CP,λ e=>k2 d CP (by rw[qV]; exact e)⟩,by simpa using k3 d' qV⟩
theorem BB {i:Nat} {o:Oper} (hm:jy ops.size listed done) (ho:ops[i]?=some o) (h1:done.testBit i=false) (sub:∀ k,k∈Aq o->k<ops.size/\done.testBit k=true) (h3:Dl done i (ops.toList.map (rowOf ops)) 0=true):Region.ready .any ops listed=[i]:=by
 have key:∀ j,j∈Region.ready .any ops listed->j=i:=λ j hj=>by
  obtain⟨h0,oj,p6,_⟩:=mem_ready.1 hj;have hr:=(se hm p6).1 hj;have N0:j<ops.size:=(mG.1 p6).1;have hy:(ops.toList.map (rowOf ops))[j]?=some (rowOf ops oj):=by
   rw[oA]; simp[p6]
  rcases Ar h3 j _ hy with e|e|e
  . simpa using e
  . rw[db]at e; rw[hr.1]at e; cases e
  . exfalso;have:pc (rowOf ops oj).a done=true:=by
     unfold pc;have e2:(rowOf ops oj).a &&& done=(rowOf ops oj).a:=by
      apply Nat.eq_of_testBit_eq;intro k;rw[Nat.testBit_and];cases hk:(rowOf ops oj).a.testBit k with
      | false=>rfl
      | true=>rw[(hr.2 k ((eL k _).1 hk)).2]; rfl
     show Nat.beq ((rowOf ops oj).a &&& done) _=true;rw[e2]; simp
    rw[this]at e; cases e
 have oX:=(se hm ho).2 ⟨h1,sub⟩;have hnd:(Region.ready .any ops listed).Nodup:=(List.Pairwise.filter _ List.nodup_range)
 match hl:Region.ready .any ops listed with
 | []=>rw[hl]at oX; cases oX
 | [x]=>rw[hl]at key; rw[key x (by simp)]
 | x::y::zs =>
   rw[hl]at key hnd;have e1:=key x (by simp);have e2:=key y (by simp);subst e1; subst e2;simp at hnd
theorem zu:∀ (dF:List (Bool×Nat)) (listed:Array Bool) (done:Nat),jy ops.size listed done->done<2 ^ ops.size->zt (ops.toList.map (rowOf ops)) ops.size dF done=true->jD ops dF listed=true
 | [],listed,done,hm,aN,h=>by
   have e:done=2 ^ ops.size-1:=fP h;simp only[jD,List.isEmpty_iff];rw[List.eq_nil_iff_forall_not_mem];intro j hj;obtain⟨h0,o,ho,_⟩:=mem_ready.1 hj;have N0:j<ops.size:=(mG.1 ho).1;rw[hm.get N0,e,Nat.testBit_two_pow_sub_one]at h0;simp[N0]at h0
 | (true,i)::r,listed,done,hm,aN,h=>by
   simp only[zt]at h;split at h
   . rename_i x hx;obtain⟨o,ho,rfl⟩:=zE hx;simp only[cb,Bool.not_eq_true',py]at h;obtain⟨h1,h2,h3,h4⟩:=h;have hi:i<ops.size:=(mG.1 ho).1;have uD:Nat.lor done (2 ^ i)<2 ^ ops.size:=Nat.or_lt_two_pow aN (Nat.pow_lt_pow_right (by omega) hi);have sub:∀ k,k∈Aq o->k<ops.size/\done.testBit k=true:=λ k hk=>by
      have:=uw h2 k ((eL k _).2 hk);refine⟨?_,this⟩;rcases kI k ops.size with h|h
      . exact h
      . rw[Nat.testBit_lt_two_pow (Nat.lt_of_lt_of_le aN (Nat.pow_le_pow_right (by omega) h))]at this; cases this
     simp only[jD,cb];refine⟨⟨?_,?_⟩,zu r _ _ (hm.set i) uD h4⟩
     . simp only[List.contains_iff_mem];exact (se hm ho).2 ⟨h1,sub⟩
     . simp only[Region.free,ho,fm,List.mem_range,kJ];intro j hj;obtain⟨oj,p6⟩:∃ oj,ops[j]?=some oj:=⟨ops[j],by simp[hj]⟩;rw[p6];have hy:(ops.toList.map (rowOf ops))[j]?=some (rowOf ops oj):=by
        rw[oA]; simp[p6]
       rcases As h3 j _ hy with e|e|e
       . left; left; simp at e; simp[e]
       . left; right; rw[hm.get hj]; simpa using e
       . right;simp only[Jn,kJ,cb,py]at e;show ((oj.after.any λ e=>Region.binds .any e&&e.on==i)||o.apart ops oj)=true;rw[kJ];rcases e with e|⟨e1,e2,e3⟩
         . left;have:=(eL i _).1 e;obtain⟨ed,he,hb,EI⟩:=ve.1 this;rw[Array.any_eq_true'];exact⟨ed,he,by simp[hb,EI]⟩
         . right;have k1:∀ d,o.dst=some d->d∉oj.looksAt ops:=λ d hd hm=>rS e1 d ((lg d _).2 hd) ((eL d _).2 hm);have k2:∀ d,o.dst=some d->oj.dst≠some d:=λ d hd hm=>rS e2 d ((lg d _).2 hd) ((lg d _).2 hm);have k3:∀ d,oj.dst=some d->d∉o.looksAt ops:=λ d hd hm=>rS e3 d ((lg d _).2 hd) ((eL d _).2 hm);unfold Oper.apart;cases CP:o.dst<;>cases qV:oj.dst<;>simp only[cb,Bool.not_eq_true',bne_iff_ne,ne_eq,Bool.and_self,and_self,true_and,and_true]
           . rename_i d; simpa using k3 d qV
           . rename_i d; exact⟨by simpa using k1 d CP,by simp⟩
           . rename_i d d';refine⟨⟨by simpa using k1 d CP,λ e=>k2 d CP (by rw[qV]; exact e)⟩,by simpa using k3 d' qV⟩
   . cases h
 | (false,i)::r,listed,done,hm,aN,h=>by
   simp only[zt]at h;split at h
   . rename_i x hx;obtain⟨o,ho,rfl⟩:=zE hx;simp only[cb,Bool.not_eq_true',py]at h;obtain⟨h1,h2,h3,h4⟩:=h;have hi:i<ops.size:=(mG.1 ho).1;have uD:Nat.lor done (2 ^ i)<2 ^ ops.size:=Nat.or_lt_two_pow aN (Nat.pow_lt_pow_right (by omega) hi);have sub:∀ k,k∈Aq o->k<ops.size/\done.testBit k=true:=λ k hk=>by
      have:=uw h2 k ((eL k _).2 hk);refine⟨?_,this⟩;rcases kI k ops.size with h|h
      . exact h
      . rw[Nat.testBit_lt_two_pow (Nat.lt_of_lt_of_le aN (Nat.pow_le_pow_right (by omega) h))]at this; cases this
     simp only[jD,cb,beq_iff_eq];refine⟨?_,zu r _ _ (hm.set i) uD h4⟩;have key:∀ j,j∈Region.ready .any ops listed->j=i:=λ j hj=>by
      obtain⟨h0,oj,p6,_⟩:=mem_ready.1 hj;have hr:=(se hm p6).1 hj;have N0:j<ops.size:=(mG.1 p6).1;have hy:(ops.toList.map (rowOf ops))[j]?=some (rowOf ops oj):=by
       rw[oA]; simp[p6]
      rcases Ar h3 j _ hy with e|e|e
      . simpa using e
      . rw[db]at e; rw[hr.1]at e; cases e
      . exfalso;have:pc (rowOf ops oj).a done=true:=by
         unfold pc;have e2:(rowOf ops oj).a &&& done=(rowOf ops oj).a:=by
          apply Nat.eq_of_testBit_eq;intro k;rw[Nat.testBit_and];cases hk:(rowOf ops oj).a.testBit k with
          | false=>rfl
          | true=>rw[(hr.2 k ((eL k _).1 hk)).2]; rfl
         show Nat.beq ((rowOf ops oj).a &&& done) _=true;rw[e2]; simp
        rw[this]at e; cases e
     have oX:=(se hm ho).2 ⟨h1,sub⟩;have hnd:(Region.ready .any ops listed).Nodup:=(List.Pairwise.filter _ List.nodup_range)
     match hl:Region.ready .any ops listed with
     | []=>rw[hl]at oX; cases oX
     | [x]=>rw[hl]at key; rw[key x (by simp)]
     | x::y::zs =>
       rw[hl]at key hnd;have e1:=key x (by simp);have e2:=key y (by simp);subst e1; subst e2;simp at hnd
   . cases h
end
def Ft:List Row->List Row->Bool
 | [],[]=>true
 | x::xs,y::ys=>Nat.beq x.d y.d&&(Nat.beq x.l y.l&&(Nat.beq x.a y.a&&Ft xs ys))
 | _,_=>false
theorem DV:∀ {a b:List Row},Ft a b=true->a=b
 | [],[],_=>rfl
 | x::xs,y::ys,h=>by
   simp only[Ft,cb]at h;obtain⟨h1,h2,h3,h4⟩:=h;obtain⟨a,b,c⟩:=x;obtain⟨a',b',c'⟩:=y;have e1:a=a':=fP h1;have e2:b=b':=fP h2;have e3:c=c':=fP h3;rw[e1,e2,e3,DV h4]
 | [],_::_,h=>by cases h
 | _::_,[],h=>by cases h
structure Pl where
 steps:List (Bool×Nat)
 rows:List Row
def Lx (ops:Array Oper) (p:Pl):Bool:=Ft (ops.toList.map (rowOf ops)) p.rows&&(zt p.rows ops.size p.steps 0&&Nat.beq p.steps.length ops.size)
theorem GB {ops:Array Oper} {p:Pl} (h:Lx ops p=true):(jD ops p.steps (Array.replicate ops.size false)&&(p.steps.length==ops.size))=true:=by
 simp only[Lx,cb]at h;obtain⟨h1,h2,h3⟩:=h;rw[<- DV h1]at h2;simp only[cb,beq_iff_eq];refine⟨zu _ _ 0 ⟨by simp,λ k hk=>by simp[hk]⟩ (Nat.two_pow_pos _) h2,fP h3⟩
def sd (ops:Array Oper) (rows:List Row):List (Bool×Nat)->Nat->Option Nat
 | [],done=>some done
 | (true,i)::r,done=>match rows[i]? with
   | some x=>cond (!hasB done i&&(pc x.a done&&Dm done i x rows 0)) (sd ops rows r (Nat.lor done (2 ^ i))) none
   | none=>none
 | (false,i)::r,done=>match rows[i]? with
   | some x=>cond (!hasB done i&&(pc x.a done&&(Dl done i rows 0&&!pS ops i))) (sd ops rows r (Nat.lor done (2 ^ i))) none
   | none=>none
section
variable {ops:Array Oper}
theorem zw:∀ (dF:List (Bool×Nat)) (listed:Array Bool) (done dn:Nat),jy ops.size listed done->done<2 ^ ops.size->sd ops (ops.toList.map (rowOf ops)) dF done=some dn ->
 ∃ l,p9 ops dF listed=some l/\jy ops.size l dn/\dn<2 ^ ops.size
 | [],listed,done,dn,hm,aN,h=>by
   simp only[sd,iI]at h;subst h;exact⟨listed,rfl,hm,aN⟩
 | (b,i)::r,listed,done,dn,hm,aN,h=>by
   obtain⟨x,hx⟩:∃ x,(ops.toList.map (rowOf ops))[i]?=some x:=by
    cases b<;>simp only[sd]at h<;>split at h<;>first|exact⟨_,by assumption⟩|cases h
   obtain⟨o,ho,rfl⟩:=zE hx;have hi:i<ops.size:=(mG.1 ho).1;have uD:Nat.lor done (2 ^ i)<2 ^ ops.size:=Nat.or_lt_two_pow aN (Nat.pow_lt_pow_right (by omega) hi);have sub:pc (rowOf ops o).a done=true->∀ k,k∈Aq o->k<ops.size/\done.testBit k=true:=λ h2 k hk=>by
    have:=uw h2 k ((eL k _).2 hk);refine⟨?_,this⟩;rcases kI k ops.size with h|h
    . exact h
    . rw[Nat.testBit_lt_two_pow (Nat.lt_of_lt_of_le aN (Nat.pow_le_pow_right (by omega) h))]at this; cases this
   cases b with
   | true =>
     simp only[sd,hx]at h;cases hc:(!hasB done i&&(pc (rowOf ops o).a done&&Dm done i (rowOf ops o) (ops.toList.map (rowOf ops)) 0)) with
     | false=>rw[hc]at h; cases h
     | true =>
       rw[hc,cond_true]at h;simp only[cb,Bool.not_eq_true',py]at hc;obtain⟨l,k1,k2,k3⟩:=zw r _ _ dn (hm.set i) uD h;refine⟨l,?_,k2,k3⟩;have KJ:(Region.ready .any ops listed).contains i=true:=by
        simp only[List.contains_iff_mem]; exact (se hm ho).2 ⟨hc.1,sub hc.2.1⟩
       have Je:Region.free .any ops listed i=true:=IW hm ho hc.2.2;simp only[p9,KJ,Je,Bool.and_self,cond_true];exact k1
   | false =>
     simp only[sd,hx]at h;cases hc:(!hasB done i&&(pc (rowOf ops o).a done&&(Dl done i (ops.toList.map (rowOf ops)) 0&&!pS ops i))) with
     | false=>rw[hc]at h; cases h
     | true =>
       rw[hc,cond_true]at h;simp only[cb,Bool.not_eq_true',py]at hc;obtain⟨l,k1,k2,k3⟩:=zw r _ _ dn (hm.set i) uD h;refine⟨l,?_,k2,k3⟩;have DA:Region.ready .any ops listed=[i]:=BB hm ho hc.1 (sub hc.2.1) hc.2.2.1;have SE:pS ops i=false:=by simpa using hc.2.2.2
       simp only[p9,DA,SE,iY,fx,Bool.and_self,cond_true];exact k1
def Pm (im:Nat) (done:Nat):List Row->Nat->Bool
 | [],_=>true
 | y::r,j=>(hasB done j||(hasB im j||pc im y.a))&&Pm im done r (j+1)
def S0 (ops:Array Oper) (rows:List Row) (I:pC) (done:Nat):Bool:=I.l.all λ i=>!hasB done i&&((om ops I i).isSome&&(match rows[i]? with|some x=>pc x.a done|none=>false))
def increasing:List Nat->Bool
 | a::b::l=>Nat.blt a b&&increasing (b::l)
 | _=>true
def tX:List Int->Bool
 | a::b::l=>decide (a<b)&&tX (b::l)
 | _=>true
def DM (P:Program) (ops:Array Oper) (rows:List Row) (dF:List (Bool×Nat)) (I:pC) (post:List (Bool×Nat)):Bool :=
 Ft (ops.toList.map (rowOf ops)) rows&&((match sd ops rows dF 0 with
  | some dn=>Pm (rp I.l) dn rows 0&&(S0 ops rows I dn&&zt rows ops.size post (Nat.lor dn (rp I.l)))
  | none=>false)&&(increasing I.l&&(tX (I.l.map λ i=>((om ops I i).map (·.1)).getD 0)&&(Nat.beq (dF.length+(I.l.length+post.length)) ops.size&&(match sH P I.t with|some (.i,_)=>true|_=>false)))))
theorem Af:∀ l:List Nat,increasing l=true->l.Pairwise (·<·)
 | [],_=>List.Pairwise.nil
 | [a],_=>List.pairwise_singleton ..
 | a::b::l,h=>by
   simp only[increasing,cb]at h;have Ez:a<b:=Nat.le_of_ble_eq_true h.1;have ih:=Af (b::l) h.2;refine List.Pairwise.cons (λ y hy=>?_) ih;rcases cK.1 hy with rfl|hy
   . exact Ez
   . exact Nat.lt_trans Ez ((List.pairwise_cons.1 ih).1 y hy)
theorem yf:∀ l:List Int,tX l=true->l.Pairwise (·<·)
 | [],_=>List.Pairwise.nil
 | [a],_=>List.pairwise_singleton ..
 | a::b::l,h=>by
   simp only[tX,cb,eg]at h;have ih:=yf (b::l) h.2;refine List.Pairwise.cons (λ y hy=>?_) ih;rcases cK.1 hy with rfl|hy
   . exact h.1
   . exact Int.lt_trans h.1 ((List.pairwise_cons.1 ih).1 y hy)
theorem G6 {im done:Nat}:∀ {l:List Row} {j:Nat},Pm im done l j=true->∀ k y,l[k]?=some y->(done.testBit (j+k)=true\/im.testBit (j+k)=true\/pc im y.a=true)
 | [],_,_,k,y,hy=>by simp at hy
 | z::r,j,h,k,y,hy=>by
   simp only[Pm,cb,kJ,py]at h;cases k with
   | zero=>simp at hy; subst hy; exact h.1
   | succ k =>
     have:=G6 h.2 k y (by simpa using hy);rw[show j+(k+1)=j+1+k by omega]; exact this
theorem jy.iz {n:Nat}:∀ (l:List Nat) (listed:Array Bool) (done:Nat),jy ops.size listed done->jy ops.size (Go.Rip.iz listed l) (Nat.lor done (rp l))
 | [],listed,done,h=>by
   show jy ops.size listed (done ||| 0);rw[Nat.or_zero]; exact h
 | i::l,listed,done,h=>by
   have:=jy.iz (n:=n) l _ _ (h.set i);show jy ops.size (Go.Rip.iz (listed.setIfInBounds i true) l) (done ||| (2 ^ i ||| rp l));rw[<- Nat.or_assoc]; exact this
theorem Nf {P:Program} {rows:List Row} {dF:List (Bool×Nat)} {I:pC} {post:List (Bool×Nat)} (h:DM P ops rows dF I post=true):wS P ops dF I post=true:=by
 simp only[DM,cb]at h;obtain⟨h1,h2,h3,h4,h5,h6⟩:=h;rw[<- DV h1]at h2;split at h2
 . rename_i dn hd;simp only[cb]at h2;obtain⟨b1,b2,b3⟩:=h2;obtain⟨l,k1,k2,k3⟩:=zw dF (Array.replicate ops.size false) 0 dn ⟨by simp,λ k hk=>by simp[hk]⟩ (Nat.two_pow_pos _) hd;have aiI:=Af _ h3;have ag9:=yf _ h4;simp only[S0,fm,cb,Bool.not_eq_true',py]at b2;have KL:∀ i∈I.l,∃ o,ops[i]?=some o/\pc (rowOf ops o).a dn=true:=λ i hi=>by
    have:=(b2 i hi).2.2;split at this
    . rename_i x hx;obtain⟨o,ho,rfl⟩:=zE hx;exact⟨o,ho,this⟩
    . cases this
   have aN:∀ i∈I.l,i<ops.size:=λ i hi=>by
    obtain⟨o,ho,_⟩:=KL i hi;exact (mG.1 ho).1
   have him:rp I.l<2 ^ ops.size:=by
    have:∀ l:List Nat,(∀ i∈l,i<ops.size)->rp l<2 ^ ops.size:=λ l=>by
     induction l with
     | nil=>intro _; exact Nat.two_pow_pos _
     | cons i l ih=>intro hh; exact Nat.or_lt_two_pow (Nat.pow_lt_pow_right (by omega) (hh i (by simp))) (ih λ j hj=>hh j (by simp[hj]))
    exact this _ aN
   have acB:∀ {o:Oper} {m:Nat},m<2 ^ ops.size->pc (rowOf ops o).a m=true->∀ e∈o.after,Region.binds .any e=true->m.testBit e.on=true:=λ {o m} SB hs e he hb =>
    uw hs e.on ((eL _ _).2 (ve.2 ⟨e,he,hb,rfl⟩))
   simp only[wS,k1,cb];refine⟨⟨?_,zu post _ _ (jy.iz (n:=0) I.l l dn k2) (Nat.or_lt_two_pow k3 him) b3⟩,h5,h6⟩;simp only[sa,F4,cb,fm,List.mem_range,kJ,eg,Bool.not_eq_true'];refine⟨λ j hj=>?_,λ i hi=>?_,?_,λ i hi=>⟨?_,(b2 i hi).2.1,?_⟩,aiI.imp (λ h=>Nat.ne_of_lt h),ag9.imp (λ h=>Int.ne_of_lt h)⟩
   . obtain⟨o,ho⟩:∃ o,ops[j]?=some o:=⟨ops[j],by simp[hj]⟩;have hy:(ops.toList.map (rowOf ops))[j]?=some (rowOf ops o):=by rw[oA]; simp[ho]
     rcases G6 b1 j _ hy with h|h|h
     . left; rw[k2.get hj]; simpa using h
     . right; left;have:=(eL _ _).1 h;simpa using this
     . right; right;rw[ho];show (I.l.all λ i=>o.after.toList.any λ e=>Region.binds .any e&&Nat.beq e.on i)=true;rw[fm];intro i hi;have:=uw h i ((eL _ _).2 hi);obtain⟨e,he,hb,EI⟩:=ve.1 ((eL _ _).1 this);rw[List.any_eq_true];exact⟨e,by simpa using he,by simp[hb,EI]⟩
   . rw[k2.get (aN i hi)]; exact (b2 i hi).1
   . rw[k2.1]; simp
   . show Nat.ble (i+1) ops.size=true;exact Nat.ble_eq_true_of_le (aN i hi)
   . obtain⟨o,ho,hs⟩:=KL i hi;rw[ho];simp only[I7,fm,kJ,Bool.not_eq_true'];intro e he;cases hb:Region.binds .any e with
     | false=>exact .inl rfl
     | true =>
       right;have ht:=acB k3 hs e (by simpa using he) hb;have uD:e.on<ops.size:=by
        rcases kI e.on ops.size with h|h
        . exact h
        . rw[Nat.testBit_lt_two_pow (Nat.lt_of_lt_of_le k3 (Nat.pow_le_pow_right (by omega) h))]at ht; cases ht
       rw[k2.get uD]; exact ht
 . cases h2
end
end Go.Rip
namespace Go.Rip
open Go.RowKit
inductive T (α:Type) where
 | e
 | n (l:T α) (v:Option α) (r:T α)
theorem Bj {a b:Nat} (h:a≠b):Nat.beq a b=false:=by
 cases hb:Nat.beq a b with
 | false=>rfl
 | true=>exact absurd (fP hb) h
theorem Qz {a b:Nat} (h:a=b):Nat.beq a b=true:=by subst h; exact Nat.beq_refl a
namespace T
variable {α:Type}
def get:T α->Nat->Option α
 | .e,_=>none
 | .n l v r,i=>cond (Nat.beq i 0) v (cond (Nat.beq (i%2) 1) (l.get (i / 2)) (r.get (i / 2-1)))
def zH:Nat->T α->Nat->Option α->T α
 | 0,t,_,_=>t
 | f+1,.e,i,v=>cond (Nat.beq i 0) (.n .e v .e) (cond (Nat.beq (i%2) 1) (.n (zH f .e (i / 2) v) none .e) (.n .e none (zH f .e (i / 2-1) v)))
 | f+1,.n l w r,i,v=>cond (Nat.beq i 0) (.n l v r) (cond (Nat.beq (i%2) 1) (.n (zH f l (i / 2) v) w r) (.n l w (zH f r (i / 2-1) v)))
def set (t:T α) (i:Nat) (v:Option α):T α:=zH (i+1) t i v
theorem Xa:∀ (f:Nat) (t:T α) (i j:Nat) (v:Option α),i<f->(zH f t i v).get j=if j=i then v else t.get j:=by
 intro f
 induction f with
 | zero=>intro t i j v h; omega
 | succ f ih =>
   intro t i j v h;have key:∀ (l r:T α) (w:Option α),(cond (Nat.beq i 0) (.n l v r) (cond (Nat.beq (i%2) 1) (.n (zH f l (i / 2) v) w r) (.n l w (zH f r (i / 2-1) v))):T α).get j=if j=i then v else (T.n l w r).get j:=λ l r w=>by
    by_cases hi:i=0
    . subst hi;simp only[Nat.beq_refl,cond_true,get]
      by_cases hj:j=0
      . subst hj; simp
      . have:Nat.beq j 0=false:=Bj hj;simp[this,hj]
    . have AW:Nat.beq i 0=false:=Bj hi;rw[AW,cond_false]
      by_cases h1:i%2=1
      . have hb:Nat.beq (i%2) 1=true:=Qz h1;rw[hb,cond_true];simp only[get]
        by_cases hj:j=0
        . subst hj;have:(0:Nat)≠i:=λ e=>hi e.symm;simp[this]
        . have Hs:Nat.beq j 0=false:=Bj hj;rw[Hs,cond_false,cond_false]
          by_cases s9:j%2=1
          . have Kt:Nat.beq (j%2) 1=true:=Qz s9;rw[Kt,cond_true,cond_true,ih _ _ _ _ (by omega)]
            by_cases e:j=i
            . subst e; simp
            . rw[if_neg (by omega),if_neg e]
          . have Kt:Nat.beq (j%2) 1=false:=Bj s9;rw[Kt,cond_false,cond_false,if_neg (by omega)]
      . have hb:Nat.beq (i%2) 1=false:=Bj h1;rw[hb,cond_false];simp only[get]
        by_cases hj:j=0
        . subst hj;have:(0:Nat)≠i:=λ e=>hi e.symm;simp[this]
        . have Hs:Nat.beq j 0=false:=Bj hj;rw[Hs,cond_false,cond_false]
          by_cases s9:j%2=1
          . have Kt:Nat.beq (j%2) 1=true:=Qz s9;rw[Kt,cond_true,cond_true,if_neg (by omega)]
          . have Kt:Nat.beq (j%2) 1=false:=Bj s9;rw[Kt,cond_false,cond_false,ih _ _ _ _ (by omega)]
            by_cases e:j=i
            . subst e; simp
            . rw[if_neg (by omega),if_neg e]
   cases t with
   | n l w r=>exact key l r w
   | e =>
     have:=key .e .e none;simp only[zH];rw[this];congr 1;simp only[get];cases Nat.beq j 0<;>cases Nat.beq (j%2) 1<;>rfl
theorem vi (t:T α) (i j:Nat) (v:Option α):(t.set i v).get j=if j=i then v else t.get j:=Xa _ _ _ _ _ (by omega)
def OG:List α->Nat->T α->T α
 | [],_,t=>t
 | x::xs,i,t=>OG xs (i+1) (t.set i (some x))
theorem NP:∀ (l:List α) (i:Nat) (t:T α) (j:Nat),(OG l i t).get j=if i<=j/\j<i+l.length then l[j-i]? else t.get j
 | [],i,t,j=>by simp[OG]; omega
 | x::xs,i,t,j=>by
   simp only[OG];rw[NP xs (i+1) _ j,vi]
   by_cases h1:i+1<=j/\j<i+1+xs.length
   . rw[if_pos h1,if_pos (by simp; omega)];have:j-i=(j-(i+1))+1:=by omega
     rw[this]; simp
   . rw[if_neg h1]
     by_cases h2:j=i
     . subst h2; simp
     . rw[if_neg h2,if_neg (by simp; omega)]
end T
def gp (t:T AV):Env:=⟨λ i=>(t.get i).getD (.aK [])⟩
theorem RX (t:T AV) (d:Nat) (v:AV):gp (t.set d (some v))=(gp t).put d v:=by
 simp only[gp,Env.put,Env.mk.injEq];funext i;rw[T.vi];split<;>rfl
def Bw (t:T AV):Option Nat->AV->T AV
 | some d,v=>t.set d (some v)
 | none,_=>t
theorem rT (t:T AV) (d:Option Nat) (v:AV):gp (Bw t d v)=(gp t).fj d v:=by
 cases d with
 | none=>rfl
 | some d=>exact RX t d v
theorem PA (l:List AV):gp (T.OG l 0 .e)=Env.kX l:=by
 simp only[gp,Env.kX,Env.mk.injEq];funext i;rw[T.NP]
 by_cases h:i<l.length
 . rw[if_pos (by omega)]; simp[oC]
 . rw[if_neg (by omega)];simp[T.get,oC,vT (Nat.le_of_not_lt h)]
structure ES where
 live:T Live
 n:Nat
def bU (e:ES):St:=⟨λ b=>e.live.get b,some e.n⟩
def ES.set (e:ES) (b:Nat) (x:Live):ES:=⟨e.live.set b (some x),e.n⟩
def ES.del (e:ES) (b:Nat):ES:=⟨e.live.set b none,e.n⟩
def ES.so (e:ES):Option Nat->ES
 | some b=>e.del b
 | none=>e
def ES.new (e:ES) (x:Live):ES:=⟨e.live.set e.n (some x),e.n+1⟩
theorem pb (e:ES) (b:Nat) (x:Live):bU (e.set b x)=(bU e).set b x:=by
 simp only[bU,ES.set,St.set,St.mk.injEq,and_true];funext y; rw[T.vi]
theorem DZ (e:ES) (b:Nat):bU (e.del b)=(bU e).del b:=by
 simp only[bU,ES.del,St.del,St.mk.injEq,and_true];funext y; rw[T.vi]
theorem Wc (e:ES) (b:Option Nat):bU (e.so b)=(bU e).so b:=by
 cases b with
 | none=>rfl
 | some b=>exact DZ e b
theorem tO (e:ES) (x:Live):bU (e.new x)=(bU e).new e.n x:=by
 simp only[bU,ES.new,St.new,St.mk.injEq,Option.map_some,and_true];funext y; rw[T.vi]
def WU:Fn->Fn->Bool
 | .func a,.func b=>Nat.beq a b
 | _,_=>false
theorem abg {a b:Fn} (h:WU a b=true):a=b:=by
 cases a<;>cases b<;>simp only[WU,bZ]at h
 rw[fP h]
def PB:mr->mr->Bool
 | .full,.full=>true
 | .own a,.own b=>Nat.beq a b
 | .iE,.iE=>true
 | _,_=>false
theorem WT {a b:mr} (h:PB a b=true):a=b:=by
 cases a<;>cases b<;>simp only[PB,bZ]at h<;>first
  | rfl
  | rw[fP h]
mutual
def kD:AV->AV->Bool
 | .bool a,.bool b=>a==b
 | .int k a,.int k' b=>decide (k=k')&&decide (a=b)
 | .str a,.str b=>decide (a=b)
 | .a8,.a8|.ag,.ag|.kx,.kx|.eA,.eA|.dE,.dE=>true
 | .box a i,.box b j=>Nat.beq a b&&Nat.beq i j
 | .da l,.da l'=>qI l l'
 | .vec n c l,.vec n' c' l'=>Nat.beq n n'&&PB c c'&&qI l l'
 | .ms b o n z e,.ms b' o' n' z' e'=>Nat.beq b b'&&Nat.beq o o'&&Nat.beq n n'&&Nat.beq z z'&&Nat.beq e e'
 | .mp a,.mp b=>Nat.beq a b
 | .gJ ks vs,.gJ ks' vs'=>qI ks ks'&&qI vs vs'
 | .func f a b,.func f' a' b'=>WU f f'&&qI a a'&&qI b b'
 | .iface t v,.iface t' v'=>Nat.beq t t'&&kD v v'
 | .agg l,.agg l'=>qI l l'
 | .aK l,.aK l'=>qI l l'
 | .te a,.te b=>Nat.beq a b
 | .it a,.it b=>Nat.beq a b
 | .any,.any=>true
 | _,_=>false
def qI:List AV->List AV->Bool
 | [],[]=>true
 | x::xs,y::ys=>kD x y&&qI xs ys
 | _,_=>false
end
mutual
theorem xP:∀ {a b:AV},kD a b=true->a=b
 | .bool a,b,h=>by cases b<;>simp only[kD,bZ]at h; simpa using h
 | .int k a,b,h=>by cases b<;>simp only[kD,bZ]at h; simpa using h
 | .str a,b,h=>by cases b<;>simp only[kD,bZ]at h; simpa using h
 | .a8,b,h=>by cases b<;>simp only[kD,bZ]at h; rfl
 | .ag,b,h=>by cases b<;>simp only[kD,bZ]at h; rfl
 | .kx,b,h=>by cases b<;>simp only[kD,bZ]at h; rfl
 | .eA,b,h=>by cases b<;>simp only[kD,bZ]at h; rfl
 | .dE,b,h=>by cases b<;>simp only[kD,bZ]at h; rfl
 | .box a i,b,h=>by cases b<;>simp only[kD,bZ,cb]at h; rw[fP h.1,fP h.2]
 | .da l,b,h=>by cases b<;>simp only[kD,bZ]at h; rw[mi h]
 | .vec n c l,b,h=>by cases b<;>simp only[kD,bZ,cb]at h; rw[fP h.1.1,WT h.1.2,mi h.2]
 | .ms b o n z e,b',h=>by
   cases b'<;>simp only[kD,bZ,cb]at h
   rw[fP h.1.1.1.1,fP h.1.1.1.2,fP h.1.1.2,fP h.1.2,fP h.2]
 | .mp a,b,h=>by cases b<;>simp only[kD,bZ]at h; rw[fP h]
 | .gJ ks vs,b,h=>by cases b<;>simp only[kD,bZ,cb]at h; rw[mi h.1,mi h.2]
 | .func f a b,b',h=>by cases b'<;>simp only[kD,bZ,cb]at h; rw[abg h.1.1,mi h.1.2,mi h.2]
 | .iface t v,b,h=>by cases b<;>simp only[kD,bZ,cb]at h; rw[fP h.1,xP h.2]
 | .agg l,b,h=>by cases b<;>simp only[kD,bZ]at h; rw[mi h]
 | .aK l,b,h=>by cases b<;>simp only[kD,bZ]at h; rw[mi h]
 | .te a,b,h=>by cases b<;>simp only[kD,bZ]at h; rw[fP h]
 | .it a,b,h=>by cases b<;>simp only[kD,bZ]at h; rw[fP h]
 | .any,b,h=>by cases b<;>simp only[kD,bZ]at h; rfl
theorem mi:∀ {a b:List AV},qI a b=true->a=b
 | [],b,h=>by cases b<;>simp only[qI,bZ]at h; rfl
 | x::xs,b,h=>by cases b<;>simp only[qI,bZ,cb]at h; rw[xP h.1,mi h.2]
end
def J3:Option Live->Option Live->Bool
 | some (.box l),some (.box l')=>qI l l'
 | some (.mp a b),some (.mp a' b')=>qI a a'&&qI b b'
 | _,_=>false
theorem RY {a b:Option Live} (h:J3 a b=true):a=b:=by
 unfold J3 at h;split at h
 . rw[mi h]
 . simp only[cb]at h; rw[mi h.1,mi h.2]
 . cases h
end Go.Rip
namespace Go.Rip
open Go.RowKit
structure jP where
 C:de
 mu:Nat->List Nat
 pf:Nat->Bool
 sm:Nat->List AV->Option AV
 sm2:Nat->List AV->ES->Option (AV×ES)
 tr:Nat->Bool
 ft:TypeId
 ins:Nat->Nat->Option (List Row×List (Bool×Nat)×pC×List (Bool×Nat)):=λ _ _=>none
abbrev KR:=cV->ES->Bool
abbrev KC:=Ex->T AV->ES->Bool
abbrev uT:=Nat->List AV->ES->KR->Bool
def rK (k kp:AV->ES->Bool):KR
 | .ret v,e=>k v e
 | .panic v,e=>kp v e
def Cu (cf cy:uT) (e:ES):aC->(AV->ES->Bool)->(AV->ES->Bool)->Bool
 | .val v,k,_=>k v e
 | .jG v b x,k,_=>k v (e.set b x)
 | .new kd del x,k,_=>k (kd.at e.n) ((e.so del).new x)
 | .nf b l,k,_=>l.all λ p=>k p.1 (e.set b p.2)
 | .enter f args,k,kp=>cf f args e (rK k kp)
 | .yield o args,k,kp=>cy o args e (rK k kp)
 | .panic v,_,kp=>kp v e
 | @aC.cond p d r,k,kp=>(@decide p d)&&Cu cf cy e r k kp
 | .bad,_,_=>false
def Eo (V:jP) (cf cy:uT) (mu:List Nat) (ops:Array Oper):List Oper->T AV->ES->(T AV->ES->Bool)->(AV->ES->Bool)->Bool
 | [],ρ,e,k,_=>k ρ e
 | o::rest,ρ,e,k,kp=>match jm ops (gp ρ) o.guard with
   | .bool true=>Cu cf cy e (kY V.C (pH mu o) o.op (gp ρ) (bU e)) (λ v e'=>Eo V cf cy mu ops rest (Bw ρ o.dst v) e' k kp) kp
   | .bool false=>Eo V cf cy mu ops rest (Bw ρ o.dst (.aK [])) e k kp
   | _=>false
def Pb (V:jP):aC->Option AV
 | .val v=>some v
 | @aC.cond p d r=>cond (@decide p d) (Pb V r) none
 | .enter f args=>V.sm f args
 | _=>none
def QP (B:List Nat) (e0 e:ES):Bool:=B.all λ b=>J3 (e.live.get b) (e0.live.get b)
def Gf (C:de) (B:List Nat) (ρ:Env) (op:Op):Bool:=op.operands.toList.all λ x=>(eE (ρ.ev C x)).all λ b=>B.any λ c=>Nat.beq c b
def qS (V:jP) (cf cy:uT) (mu:List Nat) (ops:Array Oper) (B:List Nat) (e0:ES):List (Bool×Nat)->T AV->ES->(T AV->ES->Bool)->(AV->ES->Bool)->Bool
 | [],ρ,e,k,_=>k ρ e
 | (true,i)::r,ρ,e,k,kp=>match ops[i]? with
   | none=>false
   | some o=>match jm ops (gp ρ) o.guard with
     | .bool true=>quiet o.op&&(!qA o.op||Gf V.C B (gp ρ) o.op)&&(match Pb V (kY V.C (pH mu o) o.op (gp ρ) (bU e0)) with
       | some v=>qS V cf cy mu ops B e0 r (Bw ρ o.dst v) e k kp
       | none=>false)
     | .bool false=>qS V cf cy mu ops B e0 r (Bw ρ o.dst (.aK [])) e k kp
     | _=>false
 | (false,i)::r,ρ,e,k,kp=>match ops[i]? with
   | none=>false
   | some o=>match jm ops (gp ρ) o.guard with
     | .bool true=>Cu cf cy e (kY V.C (pH mu o) o.op (gp ρ) (bU e)) (λ v e'=>(QP B e0 e'||uf ops i)&&qS V cf cy mu ops B e0 r (Bw ρ o.dst v) e' k kp) kp
     | .bool false=>qS V cf cy mu ops B e0 r (Bw ρ o.dst (.aK [])) e k kp
     | _=>false
def TM (V:jP) (o:Oper):Bool:=match o.op with
 | .call c=>match c.callee with
   | .value (.func f)=>V.pf f
   | .value _=>false
   | _=>quiet o.op
 | op=>quiet op
def Bi (V:jP) (ops:Array Oper):Nat->Array Bool->List (Bool×Nat)
 | 0,_=>[]
 | n+1,listed=>match (Region.ready .any ops listed).find? λ i=>match ops[i]? with|some o=>TM V o|none=>false with
   | some i=>(true,i)::Bi V ops n (listed.setIfInBounds i true)
   | none=>match Region.ready .any ops listed with
     | i::_=>(false,i)::Bi V ops n (listed.setIfInBounds i true)
     | []=>[]
def preB (V:jP) (mu:List Nat) (e0:ES):List Oper->T AV->List Nat->List Nat
 | [],_,B=>B
 | o::r,ρ,B=>preB V mu e0 r (Bw ρ o.dst (cond (TM V o) ((Pb V (kY V.C (pH mu o) o.op (gp ρ) (bU e0))).getD .any) .any)) (cond (qA o.op) (o.op.operands.toList.flatMap (λ x=>eE ((gp ρ).ev V.C x))++B) B)
def Qs (P:Program) (ty:TypeId) (p:AV) (U:St):Option AV:=match wJ P ty p U with
 | .val v=>some v
 | @aC.cond q d (.val v)=>cond (@decide q d) (some v) none
 | _=>none
def DT (P:Program) (ρ:Env) (U:St):List ResultVar->Option (List AV)
 | []=>some []
 | .tmp t::rs=>(DT P ρ U rs).map λ vs=>ρ.get t::vs
 | .cell t ty::rs=>match Qs P ty (ρ.get t) U with
   | some v=>(DT P ρ U rs).map λ vs=>v::vs
   | none=>none
abbrev we:=Nat->List Nat->Nat->Ro->Code->T AV->ES->KC->Bool
def WQ (P:Program) (fn:Func) (k:KR):KC:=λ ex ρ e=>match ex with
 | .normal|.ret=>match DT P (gp ρ) (bU e) fn.results.toList with
   | some vs=>k (.ret (xD vs)) e
   | none=>false
 | .panic x=>k (.panic x) e
 | .exit _=>false
def Mj (ft:TypeId) (a:Nat) (k:KR):KR
 | .ret v,e=>match (bU e).box a,(bU e).box (a+1),(bU e).box (a+2) with
   | some [_],some [_],some [_]=>v.scalar&&k (.ret (.aK [v,.int .i64 0,.bool true])) (((e.set a (.box [v])).set (a+1) (.box [.int .i64 0])).set (a+2) (.box [.bool true]))
   | _,_,_=>false
 | .panic x,e=>match x,(bU e).box a,(bU e).box (a+1),(bU e).box (a+2) with
   | .iface t (.agg [.int .i64 at_]),some [_],some [_],some [_]=>Nat.beq t ft&&k (.ret (.aK [.a8,.int .i64 at_,.bool false])) ((((e.new (.box [.int .i64 at_])).set a (.box [.a8])).set (a+1) (.box [.int .i64 at_])).set (a+2) (.box [.bool false]))
   | _,_,_,_=>false
def Ja (V:jP) (ev:we):uT:=λ f args e k =>
 match V.sm f args with
 | some x=>k (.ret x) e
 | none=>match V.sm2 f args e with
   | some (x,e')=>k (.ret x) e'
   | none=>match V.C.P.funcs[f]? with
     | some fn=>match fn.body with
       | some c=>Nat.ble args.length fn.ntmps&&ev fn.ntmps (V.mu f) f .fn c (T.OG args 0 .e) e (WQ V.C.P fn k)
       | none=>false
     | none=>false
def afC (e:ES):ES:=((e.new (.box [.a8])).new (.box [.int .i64 0])).new (.box [.bool false])
def uV (V:jP) (ev:we):uT:=λ f args e k =>
 cond (V.tr f) (match args with
  | [_,.func (.func g) first cap]=>fC V.C.P g&&Ja V ev g (first++cap) (afC e) (Mj V.ft e.n k)
  | _=>false) (Ja V ev f args e k)
def endRound (o:Nat) (k:KR):KC:=λ ex _ e=>match (bU e).loop o with
 | some L=>match ex with
   | .normal=>k (.ret (.bool true)) (e.set o (.loop { L with state:=.ready,gL:=none }))
   | .ret=>k (.ret (.bool false)) (e.set o (.loop { L with state:=.done,gL:=some .ret }))
   | .exit id=>k (.ret (.bool false)) (e.set o (.loop { L with state:=.done,gL:=some (.exit id) }))
   | .panic _=>false
 | none=>false
def isReady:LoopState->Bool
 | .ready=>true
 | _=>false
def SV:LoopState->Bool
 | .busy=>true
 | _=>false
def tP (f:Nat->AV):Nat->T AV->T AV
 | 0,t=>t
 | n+1,t=>tP f n (t.set n (some (f n)))
def yG (V:jP) (ev:we):uT:=λ o args e k =>
 match (bU e).loop o with
 | some L=>Nat.beq args.length L.params.size&&L.params.toList.all (λ t=>Nat.blt t L.nt) &&
   ev L.nt (V.mu L.tag) L.tag (.round o) L.assign (tP (zy L.ρ L.params.toList args) L.nt .e) e (λ ex ρ e=>match ex with
    | .normal=>match (bU e).loop o with
      | some L'=>isReady L'.state&&ev L.nt (V.mu L.tag) L.tag (.round o) L.body ρ (e.set o (.loop { L' with state:=.busy })) (endRound o k)
      | none=>false
    | _=>false)
 | none=>false
def J2 (o:Nat) (ρ:T AV) (k:KC):KR
 | .ret _,e=>match (bU e).loop o with
   | some L=>!SV L.state&&(match L.gL with
     | none=>k .normal ρ (e.del o)
     | some .ret=>k .ret ρ (e.del o)
     | some (.exit id)=>k (.exit id) ρ (e.del o)
     | _=>false)
   | none=>false
 | .panic x,e=>k (.panic x) .e e
def Xx (V:jP) (ops:Array Oper) (B:List Nat) (I:pC) (ρ:T AV) (e:ES) (k:T AV->ES->Bool):Bool:=match (gp ρ).get I.m with
 | .mp id=>(match (bU e).mp id with|some ([],[])=>true|_=>false)&&(B.all (λ b=>!Nat.beq b id)&&k ρ (e.set id (.mp (q9 I.kk (pz V.C ops (gp ρ) I) ([],[])).1 (q9 I.kk (pz V.C ops (gp ρ) I) ([],[])).2)))
 | _=>false
def pL (V:jP):Nat->we
 | 0=>λ _ _ _ _ _ _ _ _=>false
 | n+1=>λ nt mu tag ro c ρ e k =>
   match c with
   | .skip=>k .normal ρ e
   | .exit id=>k (.exit id) ρ e
   | .ret=>k .ret ρ e
   | .seq a b=>pL V n nt mu tag ro a ρ e λ ex ρ e=>match ex with
     | .normal=>pL V n nt mu tag ro b ρ e k
     | ex=>k ex ρ e
   | .cond x a b=>match (gp ρ).ev V.C x with
     | .bool true=>pL V n nt mu tag ro a ρ e k
     | .bool false=>pL V n nt mu tag ro b ρ e k
     | _=>false
   | .block id a=>pL V n nt mu tag ro a ρ e λ ex ρ e=>match ex with
     | .exit C2=>cond (Nat.beq C2 id) (k .normal ρ e) (k (.exit C2) ρ e)
     | ex=>k ex ρ e
   | .loop a=>pL V n nt mu tag ro a ρ e λ ex ρ e=>match ex with
     | .normal=>pL V n nt mu tag ro (.loop a) ρ e k
     | ex=>k ex ρ e
   | .region _ ops false=>mP nt ops&&Eo V (uV V (pL V n)) (yG V (pL V n)) mu ops ops.toList ρ e (λ ρ e=>k .normal ρ e) (λ x e=>k (.panic x) .e e)
   | .region id ops true=>match V.ins tag id with
     | none=>mP nt ops&&(jD ops (Bi V ops ops.size (Array.replicate ops.size false)) (Array.replicate ops.size false)&&((Bi V ops ops.size (Array.replicate ops.size false)).length==ops.size)) &&
     qS V (uV V (pL V n)) (yG V (pL V n)) mu ops (preB V mu e ops.toList ρ []) e (Bi V ops ops.size (Array.replicate ops.size false)) ρ e (λ ρ e=>k .normal ρ e) (λ x e=>k (.panic x) .e e)
     | some (rows,dF,I,post)=>mP nt ops&&(DM V.C.P ops rows dF I post&&qS V (uV V (pL V n)) (yG V (pL V n)) mu ops (preB V mu e ops.toList ρ []) e dF ρ e (λ eP e'=>Xx V ops (preB V mu e ops.toList ρ []) I eP e' (λ eP e'=>qS V (uV V (pL V n)) (yG V (pL V n)) mu ops (preB V mu e ops.toList ρ []) e post eP e' (λ ρ e=>k .normal ρ e) (λ x e=>k (.panic x) .e e))) (λ x e=>k (.panic x) .e e))
   | .rangeFunc f ps assign body=>match ro,(gp ρ).ev V.C f with
     | .fn,.func (.func lN) first cap=>fC V.C.P lN&&uV V (pL V n) lN (first++[.te e.n]++cap) (e.new (.loop ⟨(gp ρ).get,nt,ps,assign,body,.ready,none,tag⟩)) (J2 e.n ρ k)
     | _,_=>false
   | _=>false
def kR (k:KR):cV->St->Prop:=λ r U=>∃ e,U=bU e/\k r e=true
def kA (k:AV->ES->Bool):AV->St->Prop:=λ v U=>∃ e,U=bU e/\k v e=true
def kE (k:T AV->ES->Bool):Env->St->Prop:=λ ρ U=>∃ t e,ρ=gp t/\U=bU e/\k t e=true
def kC (k:KC):Ex->Env->St->Prop
 | .panic x,_,U=>∃ e,U=bU e/\k (.panic x) .e e=true
 | ex,ρ,U=>∃ t e,ρ=gp t/\U=bU e/\k ex t e=true
def Ml (ft:TypeId) (a b c:Nat) (R:cV->St->Prop):cV->St->Prop
 | .ret v,U=>v.scalar=true/\(∃ x,U.box a=some [x])/\(∃ x,U.box b=some [x])/\(∃ x,U.box c=some [x])/\R (.ret (.aK [v,.int .i64 0,.bool true])) (((U.cx a [v]).cx b [.int .i64 0]).cx c [.bool true])
 | .panic x,U=>∃ at_,x=.iface ft (.agg [.int .i64 at_])/\(∃ x,U.box a=some [x])/\(∃ x,U.box b=some [x])/\(∃ x,U.box c=some [x]) /\
    ∀ q,U.dL q->R (.ret (.aK [.a8,.int .i64 at_,.bool false])) ((((U.new q (.box [.int .i64 at_])).cx a [.a8]).cx b [.int .i64 at_]).cx c [.bool false])
def Nr (C:de) (ft:TypeId) (f:Nat):Prop:=∀ r g first cap U R,fC C.P g=true ->
 (∀ a b c,U.dL a->(U.new a (.box [.a8])).dL b->((U.new a (.box [.a8])).new b (.box [.int .i64 0])).dL c ->
   ae C g (first++cap) (((U.new a (.box [.a8])).new b (.box [.int .i64 0])).new c (.box [.bool false])) (Ml ft a b c R))->ae C f [r,.func (.func g) first cap] U R
structure th (V:jP):Prop where
 sm:∀ f args x,V.sm f args=some x->Pure V.C f args x
 sm2:∀ f args e x e',V.sm2 f args e=some (x,e')->∀ R,R (.ret x) (bU e')->ae V.C f args (bU e) R
 tr:∀ f,V.tr f=true->Nr V.C V.ft f
 mixed:V.C.P.follows .mixedOrders=true
def Am (V:jP) (cf:uT):Prop:=∀ f args e k,cf f args e k=true->ae V.C f args (bU e) (kR k)
def BX (V:jP) (cy:uT):Prop:=∀ o args e k,cy o args e k=true->n7 V.C o args (bU e) (kR k)
def xJ (V:jP) (ev:we):Prop:=∀ nt mu tag ro c ρ e k,ev nt mu tag ro c ρ e k=true->bL V.C nt ro c (kC k) (gp ρ) (bU e)
theorem vg {e:ES} {b:Nat} (h:(bU e).dL b):b=e.n:=h.2 _ rfl
theorem RT (e:ES) (d:Option Nat):(e.so d).n=e.n:=by cases d<;>rfl
section
variable {V:jP} {cf cy:uT}
theorem DW (hf:Am V cf) (hy:BX V cy) {e:ES} {k kp:AV->ES->Bool}:∀ (r:aC),Cu cf cy e r k kp=true->r.wp V.C (bU e) (kA k) (kA kp)
 | .val v,h=>⟨e,rfl,h⟩
 | .jG v b x,h=>⟨e.set b x,(pb e b x).symm,h⟩
 | .new kd del x,h=>λ b hb=>by
   rw[<- Wc]at hb ⊢;have:=vg hb;rw[RT]at this;subst this;exact⟨(e.so del).new x,by rw[tO,RT],h⟩
 | .nf b l,h=>λ p hp=>by
   simp only[Cu,fm]at h;exact⟨e.set b p.2,(pb e b p.2).symm,h p hp⟩
 | .enter f args,h=>(hf f args e _ h).mono λ r U hr=>by cases r<;>exact hr
 | .yield o args,h=>(hy o args e _ h).mono λ r U hr=>by cases r<;>exact hr
 | .panic v,h=>⟨e,rfl,h⟩
 | @aC.cond p d r,h=>by
   simp only[Cu,cb]at h;exact⟨@of_decide_eq_true p d h.1,DW hf hy r h.2⟩
 | .bad,h=>by cases h
theorem abm {ops:Array Oper} {B:List Nat} {I:pC} {k:T AV->ES->Bool} (ρ:T AV) (e:ES) (h:Xx V ops B I ρ e k=true):Qb V.C ops B I (kE k) (gp ρ) (bU e):=by
 unfold Xx at h;split at h
 . rename_i id hid;simp only[cb,fm,Bool.not_eq_true']at h;obtain⟨h1,h2,h3⟩:=h;split at h1
   . rename_i KD;refine⟨id,hid,KD,λ hm=>?_,ρ,_,rfl,(pb e id _).symm,h3⟩;have:=h2 id hm;simp at this
   . cases h1
 . cases h
theorem Dv (hf:Am V cf) (hy:BX V cy) {mu:List Nat} {ops:Array Oper} {k:T AV->ES->Bool} {kp:AV->ES->Bool}:∀ (l:List Oper) (ρ:T AV) (e:ES),Eo V cf cy mu ops l ρ e k kp=true ->
 qL V.C mu ops l (gp ρ) (bU e) (kE k) (kA kp)
 | [],ρ,e,h=>⟨ρ,e,rfl,rfl,h⟩
 | o::rest,ρ,e,h=>by
   simp only[Eo]at h;simp only[qL];split at h
   . rename_i hg;rw[hg];refine⟨λ _=>?_,λ h=>(by cases h)⟩;refine aC.wp_mono ?_ _ (DW hf hy _ h);rintro v U ⟨e',rfl,hk⟩;have:=Dv hf hy rest _ e' hk;rw[rT]at this;exact this
   . rename_i hg;rw[hg];refine⟨λ h=>(by cases h),λ _=>?_⟩;have:=Dv hf hy rest _ e h;rw[rT]at this;exact this
   . cases h
theorem Wu (hV:th V):∀ (r:aC) (v:AV),Pb V r=some v->r.yv V.C v
 | .val u,v,h=>by simp only[Pb,iI]at h; exact h
 | @aC.cond p d r,v,h=>by
   simp only[Pb]at h;cases hd:@decide p d with
   | false=>rw[hd]at h; cases h
   | true=>rw[hd]at h; exact⟨@of_decide_eq_true p d hd,Wu hV r v h⟩
 | .enter f args,v,h=>hV.sm f args v h
 | .jG _ _ _,v,h=>by cases h
 | .new _ _ _,v,h=>by cases h
 | .nf _ _,v,h=>by cases h
 | .yield _ _,v,h=>by cases h
 | .panic _,v,h=>by cases h
 | .bad,v,h=>by cases h
theorem X9 {B:List Nat} {e0 e:ES} (h:QP B e0 e=true):df B (bU e0) (bU e):=λ b hb=>by
 unfold QP at h;rw[fm]at h;exact RY (h b hb)
theorem PY {C:de} {B:List Nat} {ρ:Env} {op:Op} (h:Gf C B ρ op=true):∀ x∈op.operands.toList,∀ b∈eE (ρ.ev C x),b∈B:=λ x hx b hb=>by
 unfold Gf at h;rw[fm]at h;have:=h x hx;rw[fm]at this;have:=this b hb;rw[List.any_eq_true]at this;obtain⟨c,hc,he⟩:=this;rw[<- fP he]; exact hc
theorem p5 (hV:th V) (hf:Am V cf) (hy:BX V cy) {mu:List Nat} {ops:Array Oper} {B:List Nat} {e0:ES} {k:T AV->ES->Bool} {kp:AV->ES->Bool}:∀ (l:List (Bool×Nat)) (ρ:T AV) (e:ES),qS V cf cy mu ops B e0 l ρ e k kp=true ->
 nu V.C mu ops B (bU e0) (kE k) (kA kp) l (gp ρ) (bU e)
 | [],ρ,e,h=>⟨ρ,e,rfl,rfl,h⟩
 | (true,i)::r,ρ,e,h=>by
   simp only[qS]at h;split at h
   . cases h
   . rename_i o ho;split at h
     . rename_i hg;simp only[cb,kJ,Bool.not_eq_true']at h;obtain⟨⟨h1,h2⟩,h3⟩:=h;split at h3
       . rename_i v hv;refine⟨o,v,ho,.inl ⟨hg,h1,λ KK=>?_,Wu hV _ _ hv⟩,?_⟩
         . rcases h2 with h2|h2
           . rw[KK]at h2; cases h2
           . exact PY h2
         . have:=p5 hV hf hy r _ e h3;rw[rT]at this;exact this
       . cases h3
     . rename_i hg;refine⟨o,.aK [],ho,.inr ⟨hg,rfl⟩,?_⟩;have:=p5 hV hf hy r _ e h;rw[rT]at this;exact this
     . cases h
 | (false,i)::r,ρ,e,h=>by
   simp only[qS]at h;simp only[nu,mR];split at h
   . cases h
   . rename_i o ho
     try rw[ho]
     try dsimp only
     split at h
     . rename_i hg;rw[hg];refine⟨λ _=>?_,λ h=>(by cases h)⟩;refine aC.wp_mono ?_ _ (DW hf hy _ h);rintro v U ⟨e',rfl,hk⟩;simp only[cb]at hk;refine⟨?_,?_⟩
       . rw[kJ]at hk;rcases hk.1 with h|h
         . exact .inr (X9 h)
         . exact .inl (abC h)
       have:=p5 hV hf hy r _ e' hk.2;rw[rT]at this;exact this
     . rename_i hg;rw[hg];refine⟨λ h=>(by cases h),λ _=>?_⟩;have:=p5 hV hf hy r _ e h;rw[rT]at this;exact this
     . cases h
theorem wR {C:de} {mu:List Nat} {ops:Array Oper} {K K':Env->St->Prop} {Kp zU:AV->St->Prop} (hk:∀ ρ U,K ρ U->K' ρ U) (hp:∀ v U,Kp v U->zU v U):∀ (l:List Oper) {ρ:Env} {U:St},qL C mu ops l ρ U K Kp->qL C mu ops l ρ U K' zU
 | [],_,_,h=>hk _ _ h
 | o::rest,ρ,U,h=>by
   simp only[qL]at h ⊢;have wpp:∀ (r:aC) {U:St} {X:AV->St->Prop},r.wp C U X Kp->r.wp C U X zU:=λ r=>by
    induction r with
    | val _=>exact λ h=>h
    | jG _ _ _=>exact λ h=>h
    | new _ _ _=>exact λ h=>h
    | nf _ _=>exact λ h=>h
    | enter f args=>exact λ h=>h.mono λ r U hr=>by cases r<;>first|exact hr|exact hp _ _ hr
    | yield o args=>exact λ h=>h.mono λ r U hr=>by cases r<;>first|exact hr|exact hp _ _ hr
    | panic v=>exact λ h=>hp _ _ h
    | cond p r ih=>exact λ h=>⟨h.1,ih h.2⟩
    | bad=>exact λ h=>h
   cases hg:jm ops ρ o.guard<;>rw[hg]at h<;>simp only[ax]at h ⊢
   exact⟨λ e=>aC.wp_mono (λ v U hv=>wR hk hp rest hv) _ (wpp _ (h.1 e)),λ e=>wR hk hp rest (h.2 e)⟩
theorem XM {P:Program} {ty:TypeId} {p v:AV} {U:St} (h:Qs P ty p U=some v) {k:AV->Prop} (hk:k v):Cj P ty p U k:=by
 unfold Qs at h;unfold Cj;split at h
 . rename_i u hu;cases h
   first|exact hk|(rw[hu]; exact hk)
 . rename_i q d u hu;cases hd:@decide q d with
   | false=>rw[hd]at h; cases h
   | true =>
     rw[hd]at h; cases h
     first|exact⟨@of_decide_eq_true q d hd,hk⟩|(rw[hu]; exact⟨@of_decide_eq_true q d hd,hk⟩)
 . cases h
theorem Cs {P:Program} {ρ:Env} {U:St}:∀ (rs:List ResultVar) (vs:List AV) (k:List AV->Prop),DT P ρ U rs=some vs->k vs->xy P ρ U rs k
 | [],vs,k,h,hk=>by simp only[DT,iI]at h; subst h; exact hk
 | .tmp t::rs,vs,k,h,hk=>by
   simp only[DT,qN]at h;obtain⟨us,hu,rfl⟩:=h;exact Cs rs us _ hu hk
 | .cell t ty::rs,vs,k,h,hk=>by
   simp only[DT]at h;split at h
   . rename_i v hv;simp only[qN]at h;obtain⟨us,hu,rfl⟩:=h;exact XM hv (Cs rs us _ hu hk)
   . cases h
theorem JS (hV:th V) {ev:we} (he:xJ V ev):Am V (Ja V ev):=λ f args e k h=>by
 simp only[Ja]at h;split at h
 . rename_i x hx;exact hV.sm f args x hx _ _ ⟨e,rfl,h⟩
 . split at h
   . rename_i x e' hx;exact hV.sm2 f args e x e' hx _ ⟨e',rfl,h⟩
   . split at h
     . rename_i fn hfn;split at h
       . rename_i c hc;simp only[cb]at h;refine ae.OI hfn hc (Nat.le_of_ble_eq_true h.1) ?_;have:=he _ _ _ _ _ _ _ _ h.2;rw[PA]at this;refine this.mono ?_;intro ex ρ U hc;cases ex with
         | normal =>
           obtain⟨t,e',rfl,rfl,hk⟩:=hc;simp only[WQ]at hk;split at hk
           . rename_i vs A8;exact Cs _ vs _ A8 ⟨_,_,pD.refl _ _,e',rfl,hk⟩
           . cases hk
         | ret =>
           obtain⟨t,e',rfl,rfl,hk⟩:=hc;simp only[WQ]at hk;split at hk
           . rename_i vs A8;exact Cs _ vs _ A8 ⟨_,_,pD.refl _ _,e',rfl,hk⟩
           . cases hk
         | panic x =>
           obtain⟨e',rfl,hk⟩:=hc;exact⟨e',rfl,hk⟩
         | exit id =>
           obtain⟨t,e',rfl,rfl,hk⟩:=hc;cases hk
       . cases h
     . cases h
theorem pB (e:ES) (b:Nat) (l:List AV):(bU e).cx b l=bU (e.set b (.box l)):=(pb e b _).symm
theorem JT (hV:th V) {ev:we} (he:xJ V ev):Am V (uV V ev):=λ f args e k h=>by
 simp only[uV]at h;cases htr:V.tr f with
 | false=>rw[htr]at h; exact JS hV he f args e k h
 | true =>
   rw[htr]at h;simp only[cond_true]at h;split at h
   . rename_i r g first cap
     rw[cb]at h;obtain⟨vG,h⟩:=h;refine hV.tr f htr r g first cap _ _ vG λ a b c ha hb hc=>?_
     have ea:=vg ha;subst ea;rw[<- tO]at hb hc ⊢;have eb:=vg hb;subst eb;rw[<- tO]at hc ⊢;have ec:=vg hc;subst ec;rw[<- tO];refine (JS hV he g _ _ _ h).mono ?_;rintro r U ⟨e',rfl,hk⟩;cases r with
     | ret v =>
       simp only[Mj]at hk;split at hk
       . rename_i x y z h1 h2 h3;rw[cb]at hk;refine⟨hk.1,⟨x,h1⟩,⟨y,h2⟩,⟨z,h3⟩,?_⟩;rw[pB,pB,pB];exact⟨_,rfl,hk.2⟩
       . cases hk
     | panic x =>
       simp only[Mj]at hk;split at hk
       . rename_i t at_ x y z h1 h2 h3;simp only[cb]at hk;have ht:=fP hk.1;subst ht;refine⟨at_,rfl,⟨x,h1⟩,⟨y,h2⟩,⟨z,h3⟩,λ q hq=>?_⟩;have eq:=vg hq;subst eq;rw[<- tO,pB,pB,pB];exact⟨_,rfl,hk.2⟩
       . cases hk
   . cases h
theorem vX (f:Nat->AV):∀ (n:Nat) (t:T AV) (i:Nat),(tP f n t).get i=if i<n then some (f i) else t.get i
 | 0,t,i=>by simp[tP]
 | n+1,t,i=>by
   simp only[tP];rw[vX f n,T.vi]
   by_cases h:i<n
   . rw[if_pos h,if_pos (by omega)]
   . rw[if_neg h]
     by_cases e:i=n
     . subst e; simp
     . rw[if_neg e,if_neg (by omega)]
end
end Go.Rip
namespace Go.Rip
open Go.RowKit
theorem bL.env {C:de} {nt:Nat} {ro:Ro} {c:Code} {Q:Ex->Env->St->Prop} {ρ eP:Env} {U:St} (h1:∀ t,t<nt->eP.get t=ρ.get t) (h2:∀ t,nt<=t->eP.get t=.aK []) (h:bL C nt ro c Q eP U):bL C nt ro c Q ρ U:=by
 intro g w a fr k1 k2 k3 k4 k5;refine h g w a fr k1 k2 (λ t=>?_) k4 k5
 by_cases ht:t<nt
 . rw[h1 t ht]; exact k3 t
 . rw[h2 t (by omega)];have:a.tmps.getD t undef=undef:=by
    rw[Array.getD_eq_getD_getElem?,zB (by omega)]; rfl
   rw[this]; exact wU
section
variable {V:jP}
theorem Wt (hV:th V) {ev:we} (he:xJ V ev):BX V (yG V ev):=λ o args e k h=>by
 simp only[yG]at h;split at h
 . rename_i L hL;simp only[cb]at h;obtain⟨⟨h1,h2⟩,h3⟩:=h;refine n7.Lq hL (fP h1) (λ t ht=>?_) ?_
   . rw[fm]at h2;have:=h2 t ht;simpa [Nat.blt_eq] using this
   . have h4:=he _ _ _ _ _ _ _ _ h3;refine bL.env (eP:=gp (tP (zy L.ρ L.params.toList args) L.nt .e)) (λ t ht=>?_) (λ t ht=>?_) ?_
     . simp only[gp]; rw[vX,if_pos ht]; rfl
     . simp only[gp]; rw[vX,if_neg (by omega)]; rfl
     . refine h4.mono ?_;intro ex ρ U hc;cases ex with
       | normal =>
         obtain⟨t,e',rfl,rfl,hk⟩:=hc;dsimp only at hk;split at hk
         . rename_i L' NR;simp only[cb]at hk;refine⟨L',NR,?_,?_⟩
           . have:=hk.1;cases hs:L'.state<;>rw[hs]at this<;>first
              | rfl
              | (simp[isReady]at this)
           . have h5:=he _ _ _ _ _ _ _ _ hk.2;rw[pb]at h5;refine h5.mono ?_;intro ex ρ U x5;cases ex with
             | normal =>
               obtain⟨t',e2,rfl,rfl,gD⟩:=x5;simp only[endRound]at gD;split at gD
               . rename_i L2 NS; exact⟨L2,NS,_,(pb _ _ _).symm,gD⟩
               . cases gD
             | ret =>
               obtain⟨t',e2,rfl,rfl,gD⟩:=x5;simp only[endRound]at gD;split at gD
               . rename_i L2 NS; exact⟨L2,NS,_,(pb _ _ _).symm,gD⟩
               . cases gD
             | exit id =>
               obtain⟨t',e2,rfl,rfl,gD⟩:=x5;simp only[endRound]at gD;split at gD
               . rename_i L2 NS; exact⟨L2,NS,_,(pb _ _ _).symm,gD⟩
               . cases gD
             | panic x =>
               obtain⟨e2,rfl,gD⟩:=x5;simp only[endRound]at gD;split at gD<;>cases gD
         . cases hk
       | exit id=>obtain⟨t,e',rfl,rfl,hk⟩:=hc; cases hk
       | ret=>obtain⟨t,e',rfl,rfl,hk⟩:=hc; cases hk
       | panic x=>obtain⟨e',rfl,hk⟩:=hc; cases hk
 . cases h
theorem WV (hV:th V) (n:Nat) (ihs:∀ m,m<n->xJ V (pL V m)):xJ V (pL V n):=by
 cases n with
 | zero=>intro nt mu tag ro c ρ e k h; cases h
 | succ n =>
   intro nt mu tag ro c ρ e k h;have ih:=ihs n (Nat.lt_succ_self n);have hf:=JT hV ih;have hy:=Wt hV ih
   by_cases hl:∃ a,c=.loop a
   . obtain⟨a,rfl⟩:=hl;refine bL.loop (λ j ρ U=>j<=n+1/\∃ t e,ρ=gp t/\U=bU e/\pL V j nt mu tag ro (.loop a) t e k=true) (n:=n+1) ⟨bX _,ρ,e,rfl,rfl,h⟩ ?_;rintro j eP ad ⟨hj,t,e',rfl,rfl,hk⟩;cases j with
     | zero=>cases hk
     | succ j =>
       simp only[pL]at hk;refine (ihs j (by omega) _ _ _ _ _ _ _ _ hk).mono ?_;intro ex s0 bf hc;cases ex with
       | normal =>
         obtain⟨t2,e2,rfl,rfl,gD⟩:=hc;exact⟨j,Nat.lt_succ_self j,by omega,t2,e2,rfl,rfl,gD⟩
       | exit id=>exact hc
       | ret=>exact hc
       | panic x=>exact hc
   simp only[pL]at h;split at h
   . exact bL.skip ⟨ρ,e,rfl,rfl,h⟩
   . exact bL.exit ⟨ρ,e,rfl,rfl,h⟩
   . exact bL.ret ⟨ρ,e,rfl,rfl,h⟩
   . rename_i a b;refine bL.seq ((ih _ _ _ _ _ _ _ _ h).mono ?_);intro ex eP ad hc;cases ex with
     | normal =>
       obtain⟨t,e',rfl,rfl,hk⟩:=hc;exact ih _ _ _ _ _ _ _ _ hk
     | exit id=>exact hc
     | ret=>exact hc
     | panic x=>exact hc
   . rename_i x a b;split at h
     . rename_i hc; exact bL.agR hc (ih _ _ _ _ _ _ _ _ h)
     . rename_i hc; exact bL.agQ hc (ih _ _ _ _ _ _ _ _ h)
     . cases h
   . rename_i id a;refine bL.block ((ih _ _ _ _ _ _ _ _ h).mono ?_);intro ex eP ad hc;cases ex with
     | normal=>exact hc
     | exit C2 =>
       obtain⟨t,e',rfl,rfl,hk⟩:=hc;simp only[Ax];dsimp only at hk;split
       . rename_i hid;subst hid;rw[Nat.beq_refl,cond_true]at hk;exact⟨t,e',rfl,rfl,hk⟩
       . rename_i hid;rw[Bj hid,cond_false]at hk;exact⟨t,e',rfl,rfl,hk⟩
     | ret=>exact hc
     | panic x=>exact hc
   . rename_i a;exact (hl ⟨a,rfl⟩).elim
   . rename_i id ops;simp only[cb]at h;refine bL.region mu h.1 (wR ?_ ?_ _ (Dv hf hy _ _ _ h.2))
     . rintro eP ad ⟨t,e',rfl,rfl,hk⟩;exact⟨t,e',rfl,rfl,hk⟩
     . rintro v ad ⟨e',rfl,hk⟩ eP;exact⟨e',rfl,hk⟩
   . rename_i id ops;split at h
     . simp only[cb]at h;refine bL.u5 mu _ _ hV.mixed h.1.1 (by rw[cb]; exact h.1.2) (kT ?_ ?_ _ (p5 hV hf hy _ _ _ h.2))
       . rintro eP ad ⟨t,e',rfl,rfl,hk⟩;exact⟨t,e',rfl,rfl,hk⟩
       . rintro v ad ⟨e',rfl,hk⟩ eP;exact⟨e',rfl,hk⟩
     . rename_i rows dF I post _;simp only[cb]at h;have ZA:∀ v U,kA (λ x e=>k (.panic x) .e e) v U->zV (kC k) v U:=by
        rintro v ad ⟨e',rfl,hk⟩ eP;exact⟨e',rfl,hk⟩
       refine bL.TO (B:=preB V mu e ops.toList ρ []) (mu:=mu) dF I post hV.mixed h.1 (Nf h.2.1) (kT ?_ ZA _ (p5 hV hf hy _ _ _ h.2.2));rintro eP ad ⟨t,e',rfl,rfl,hk⟩;obtain⟨C2,q1,q2,q3,t2,e2,q4,q5,q6⟩:=abm t e' hk;refine⟨C2,q1,q2,q3,?_⟩;have key:=kT (K':=KQ (kC k)) (by
        rintro s0 bf ⟨t3,e3,rfl,rfl,hk⟩;exact⟨t3,e3,rfl,rfl,hk⟩) ZA _ (p5 hV hf hy _ _ _ q6)
       rw[<- q4,<- q5]at key;exact key
   . rename_i f ps assign body;split at h
     . rename_i lN first cap hfn
       simp only[cb]at h;refine bL.rangeFunc tag hfn h.1 λ o ho=>?_;have:=vg ho;subst this;rw[<- tO];refine (hf _ _ _ _ h.2).mono ?_;rintro r U ⟨e',rfl,hk⟩;cases r with
       | ret v =>
         simp only[J2]at hk;split at hk
         . rename_i L hL;simp only[cb,Bool.not_eq_true']at hk;refine⟨L,hL,λ hb=>?_,?_⟩
           . rw[hb]at hk; simp[SV]at hk
           . have gD:=hk.2;rw[<- DZ];split at gD
             . rename_i hp; try rw[hp]
               exact⟨_,_,rfl,rfl,gD⟩
             . rename_i hp; try rw[hp]
               exact⟨_,_,rfl,rfl,gD⟩
             . rename_i id hp; try rw[hp]
               exact⟨_,_,rfl,rfl,gD⟩
             . cases gD
         . cases hk
       | panic x=>exact⟨e',rfl,hk⟩
     . cases h
   . cases h
theorem aeb (hV:th V) (n:Nat):xJ V (pL V n):=by
 induction n using Nat.strongRecOn with
 | _ n ih=>exact WV hV n ih
theorem aec {V:jP} (hV:th V) (n f:Nat) (args:List AV) (e:ES) (k:KR) (h:uV V (pL V n) f args e k=true):ae V.C f args (bU e) (kR k):=JT hV (aeb hV n) f args e k h
end
end Go.Rip
namespace Go.Rip
open Go.RowKit
mutual
def closed:AV->Bool
 | .box _ _|.ms _ _ _ _ _|.mp _|.te _|.it _=>false
 | .vec _ (.own _) _=>false
 | .vec _ _ l=>cD l
 | .da l=>cD l
 | .gJ ks vs=>cD ks&&cD vs
 | .func _ a b=>cD a&&cD b
 | .iface _ v=>closed v
 | .agg l=>cD l
 | .aK l=>cD l
 | _=>true
def cD:List AV->Bool
 | []=>true
 | x::xs=>closed x&&cD xs
end
mutual
theorem aA.closed {g g':Gh} (hi:∀ b o x,g.cJ b o=some x->g'.cJ b o=some x) (hm:∀ b x,g.cu b=some x->g'.cu b=some x):∀ (x:AV) (v:Value),closed x=true->aA g x v->aA g' x v
 | .bool _,_,_,hr=>hr
 | .int _ _,_,_,hr=>hr
 | .str _,_,_,hr=>hr
 | .a8,_,_,hr=>hr
 | .ag,_,_,hr=>hr
 | .kx,_,_,hr=>hr
 | .eA,_,_,hr=>hr
 | .dE,_,_,hr=>hr
 | .box _ _,_,hc,_=>by cases hc
 | .ms _ _ _ _ _,_,hc,_=>by cases hc
 | .mp _,_,hc,_=>by cases hc
 | .te _,_,hc,_=>by cases hc
 | .it _,_,hc,_=>by cases hc
 | .da l,_,hc,hr=>by
   simp only[aA]at hr ⊢;obtain⟨aL,off,vs,hv,h1,h2⟩:=hr;exact⟨aL,off,vs,hv,λ i u hu=>hi _ _ _ (h1 i u hu),aH.closed hi hm l vs hc h2⟩
 | .vec n cap l,_,hc,hr=>by
   simp only[aA]at hr ⊢;obtain⟨aL,off,c,vs,hv,h1,h2,h3,h4,h5⟩:=hr;cases cap with
   | own τ=>cases hc
   | full=>exact⟨aL,off,c,vs,hv,h1,h2,h3,λ i u hu=>hi _ _ _ (h4 i u hu),aH.closed hi hm l vs hc h5⟩
   | iE=>exact⟨aL,off,c,vs,hv,h1,h2,trivial,λ i u hu=>hi _ _ _ (h4 i u hu),aH.closed hi hm l vs hc h5⟩
 | .gJ ks vs,_,hc,hr=>by
   simp only[aA]at hr ⊢;simp only[Go.Rip.closed,cb]at hc;obtain⟨r,es,c,l,hv,he,hp,hs,h1,h2⟩:=hr;exact⟨r,es,c,l,hv,hm _ _ he,hp,hs,aH.closed hi hm ks _ hc.1 h1,aH.closed hi hm vs _ hc.2 h2⟩
 | .func fn first captured,_,hc,hr=>by
   simp only[aA]at hr ⊢;simp only[Go.Rip.closed,cb]at hc;obtain⟨fs,cs,hv,h1,h2⟩:=hr;exact⟨fs,cs,hv,aH.closed hi hm first _ hc.1 h1,aH.closed hi hm captured _ hc.2 h2⟩
 | .iface t x,_,hc,hr=>by
   simp only[aA]at hr ⊢;obtain⟨u,hv,h1⟩:=hr;exact⟨u,hv,aA.closed hi hm x _ hc h1⟩
 | .agg l,_,hc,hr=>by
   simp only[aA]at hr ⊢;obtain⟨vs,hv,h0,h1⟩:=hr;exact⟨vs,hv,h0,aH.closed hi hm l _ hc h1⟩
 | .aK l,_,hc,hr=>by
   simp only[aA]at hr ⊢;obtain⟨vs,hv,h1⟩:=hr;exact⟨vs,hv,aH.closed hi hm l _ hc h1⟩
 | .any,_,_,_=>by simp only[aA]
theorem aH.closed {g g':Gh} (hi:∀ b o x,g.cJ b o=some x->g'.cJ b o=some x) (hm:∀ b x,g.cu b=some x->g'.cu b=some x):∀ (l:List AV) (vs:List Value),cD l=true->aH g l vs->aH g' l vs
 | [],_,_,hr=>by simpa only[aH] using hr
 | x::xs,_,hc,hr=>by
   simp only[aH]at hr ⊢;simp only[cD,cb]at hc;obtain⟨u,us,hv,h1,h2⟩:=hr;exact⟨u,us,hv,aA.closed hi hm x _ hc.1 h1,aH.closed hi hm xs _ hc.2 h2⟩
end
def resolve:Nat->St->AV->AV
 | 0,_,_=>.any
 | n+1,U,x=>match x with
   | .box b off=>match U.box b with
     | some l=>.da ((l.map (resolve n U)).drop off)
     | none=>.any
   | .ms b off k _ _=>match U.box b with
     | some l=>.vec k .iE ((l.map (resolve n U)).drop off)
     | none=>.any
   | .mp m=>match U.mp m with
     | some (ks,vs)=>.gJ ks (vs.map (resolve n U))
     | none=>.any
   | .vec k .full l=>.vec k .full (l.map (resolve n U))
   | .vec k _ l=>.vec k .iE (l.map (resolve n U))
   | .da l=>.da (l.map (resolve n U))
   | .gJ ks vs=>.gJ ks (vs.map (resolve n U))
   | .func f a b=>.func f (a.map (resolve n U)) (b.map (resolve n U))
   | .iface t v=>.iface t (resolve n U v)
   | .agg l=>.agg (l.map (resolve n U))
   | .aK l=>.aK (l.map (resolve n U))
   | .te _|.it _=>.any
   | x=>x
noncomputable def Gh.all (g:Gh) (w:World):Gh :=
 { g with
  cJ:=λ q o=>if g.base<=q then (match w.cell? ⟨q,o,none⟩ with|some u=>if u.oneCell'=true then some u else none|none=>none) else g.cJ q o
  cu:=λ q=>if g.base<=q then (match w.heap[q]? with|some (.map es c)=>if h:(open Classical in decide (mq es c))=true then some (es,c) else none|_=>none) else g.cu q }
theorem Ns {g:Gh} {w:World} {q o:Nat} {u:Value} (hq:g.base<=q) (hc:w.cell? ⟨q,o,none⟩=some u) (h1:u.oneCell'=true):(g.all w).cJ q o=some u:=by
 show (if _ then _ else _)=_
 rw[if_pos hq,hc]; simp[h1]
theorem JD {g:Gh} {w:World} {q:Nat} {es:Array MapEntry} {c:Nat} (hq:g.base<=q) (hc:w.heap[q]?=some (.map es c)) (h1:mq es c):(g.all w).cu q=some (es,c):=by
 show (if _ then _ else _)=_
 rw[if_pos hq,hc]; simp[h1]
theorem bw.EV {g:Gh} {U:St} {w:World} (h:bw g U w):Gh.Le g (g.all w):=by
 refine⟨rfl,rfl,λ _ _ h=>h,λ b o x hx=>?_,λ b x hx=>?_,λ _ h=>h,λ b o hb=>?_,λ b hb=>?_⟩
 . by_cases hq:g.base<=b
   . exact Ns hq (h.cJ _ _ _ hx).1 (h.cJ _ _ _ hx).2
   . show (if _ then _ else _)=_
     rw[if_neg hq]; exact hx
 . by_cases hq:g.base<=b
   . exact JD hq (h.cu _ _ _ hx).1 (h.cu _ _ _ hx).2
   . show (if _ then _ else _)=_
     rw[if_neg hq]; exact hx
 . show (if _ then _ else _)=_
   rw[if_neg (by omega)]
 . show (if _ then _ else _)=_
   rw[if_neg (by omega)]
theorem yL {g:Gh} {U:St} {w:World} (h:bw g U w) (q o:Nat) (u:Value) (hu:(g.all w).cJ q o=some u):w.cell? ⟨q,o,none⟩=some u/\u.oneCell'=true:=by
 have hu:(if g.base<=q then (match w.cell? ⟨q,o,none⟩ with|some u=>if u.oneCell'=true then some u else none|none=>none) else g.cJ q o)=some u:=hu
 split at hu
 . split at hu
   . rename_i x hx;split at hu
     . cases hu; exact⟨hx,by assumption⟩
     . cases hu
   . cases hu
 . exact h.cJ _ _ _ hu
theorem xf {g:Gh} {U:St} {w:World} (h:bw g U w) (q:Nat) (es:Array MapEntry) (c:Nat) (hu:(g.all w).cu q=some (es,c)):w.heap[q]?=some (.map es c)/\mq es c:=by
 have hu:(if g.base<=q then (match w.heap[q]? with|some (.map es c)=>if h:(open Classical in decide (mq es c))=true then some (es,c) else none|_=>none) else g.cu q)=some (es,c):=hu
 split at hu
 . split at hu
   . rename_i xQ c' hx;split at hu
     . rename_i hb;cases hu; exact⟨hx,by simpa using hb⟩
     . cases hu
   . cases hu
 . exact h.cu _ _ _ hu
theorem DQ {g g':Gh} {f:AV->AV}:∀ {l:List AV} {vs:List Value},(∀ x v,x∈l->aA g x v->aA g' (f x) v)->aH g l vs->aH g' (l.map f) vs
 | [],_,_,h=>by simpa only[aH,oB] using h
 | x::xs,_,hf,h=>by
   simp only[aH,dH]at h ⊢;obtain⟨u,us,hv,h1,h2⟩:=h;exact⟨u,us,hv,hf x u (by simp) h1,DQ (λ y v hy=>hf y v (by simp[hy])) h2⟩
theorem De {g:Gh} {U:St} {w:World} (h:bw g U w):∀ (n:Nat) (x:AV) (v:Value),aA g x v->aA (g.all w) (resolve n U x) v:=by
 intro n
 induction n with
 | zero=>intro x v _; simp only[resolve,aA]
 | succ n ih =>
   intro x v hr;have hl:=h.EV;have sB:∀ {l:List AV} {vs:List Value},aH g l vs->aH (g.all w) (l.map (resolve n U)) vs:=λ h=>DQ (λ y v _ hy=>ih y v hy) h;have hi:∀ {aL off:Nat} {vs:List Value},mY g aL off vs->mY (g.all w) aL off vs:=λ h=>h.mono hl;have box:∀ {b off:Nat} {l:List AV} {p:Place},U.box b=some l->g.place b=some p->∃ vs,mY (g.all w) p.aL off vs/\aH (g.all w) ((l.map (resolve n U)).drop off) vs:=λ {b off l p} hb hp=>by
    obtain⟨x',cur,vs,rest,k1,k2,k3,k4,k5,k6,k7,k8⟩:=h.box b l hb;have k1:g.place b=some x':=k1;rw[hp]at k1; cases k1;refine⟨vs.drop off,λ i u hu=>?_,(sB k6).drop off⟩;rw[List.getElem?_drop]at hu;have aN:off+i<vs.length:=by
     rcases kI (off+i) vs.length with h|h
     . exact h
     . simp[vT h]at hu
    have hc:cur[off+i]?=some u:=by rw[<- mH,k5,uG aN]; exact hu
    exact Ns k2 (by rw[cell_of_row _ _ _ cur p.e (0,0) k3]; exact hc) (k7 u (gw (by rw[mH]; exact hc)))
   cases x with
   | box b off =>
     simp only[resolve];cases hb:U.box b with
     | none=>simp only[aA]
     | some l =>
       simp only[aA]at hr ⊢;obtain⟨p,hp,rfl⟩:=hr;obtain⟨vs,h1,h2⟩:=box (off:=off) hb hp;exact⟨p.aL,off,vs,rfl,h1,h2⟩
   | ms b off k j9 e =>
     simp only[resolve];cases hb:U.box b with
     | none=>simp only[aA]
     | some l =>
       simp only[aA]at hr ⊢;obtain⟨p,c,hp,rfl,q1,q2,_⟩:=hr;obtain⟨vs,h1,h2⟩:=box (off:=off) hb hp;exact⟨p.aL,off,c,vs,rfl,q1,q2,trivial,h1,h2⟩
   | mp m =>
     simp only[resolve];cases hm:U.mp m with
     | none=>simp only[aA]
     | some kv =>
       obtain⟨ks,vs⟩:=kv;simp only[aA]at hr ⊢;obtain⟨r,hr,rfl⟩:=hr;obtain⟨r',es,clock,q1,q2,q3,qb,⟨l,q4,q5,q6,q7⟩,q8⟩:=h.mp m _ hm;rw[hr]at q1; cases q1;exact⟨r,es,clock,l,rfl,JD q2 q3 qb,q4,q5,q6.mono hl,sB q7⟩
   | vec k c l =>
     simp only[aA]at hr;obtain⟨aL,off,c',vs,rfl,h1,h2,h3,h4,h5⟩:=hr;cases c with
     | full=>simp only[resolve,aA]; exact⟨aL,off,c',vs,rfl,h1,h2,h3,hi h4,sB h5⟩
     | own τ=>simp only[resolve,aA]; exact⟨aL,off,c',vs,rfl,h1,h2,trivial,hi h4,sB h5⟩
     | iE=>simp only[resolve,aA]; exact⟨aL,off,c',vs,rfl,h1,h2,trivial,hi h4,sB h5⟩
   | da l =>
     simp only[resolve,aA]at hr ⊢;obtain⟨aL,off,vs,rfl,h1,h2⟩:=hr;exact⟨aL,off,vs,rfl,hi h1,sB h2⟩
   | gJ ks vs =>
     simp only[resolve,aA]at hr ⊢;obtain⟨r,es,c,l,rfl,he,hp,hs,h1,h2⟩:=hr;exact⟨r,es,c,l,rfl,hl.cu _ _ he,hp,hs,h1.mono hl,sB h2⟩
   | func f a b =>
     simp only[resolve,aA]at hr ⊢;obtain⟨fs,cs,rfl,h1,h2⟩:=hr;exact⟨fs,cs,rfl,sB h1,sB h2⟩
   | iface t x =>
     simp only[resolve,aA]at hr ⊢;obtain⟨u,rfl,h1⟩:=hr;exact⟨u,rfl,ih _ _ h1⟩
   | agg l =>
     simp only[resolve,aA]at hr ⊢;obtain⟨vs,rfl,h0,h1⟩:=hr;exact⟨vs,rfl,h0,sB h1⟩
   | aK l =>
     simp only[resolve,aA]at hr ⊢;obtain⟨vs,rfl,h1⟩:=hr;exact⟨vs,rfl,sB h1⟩
   | te o=>simp only[resolve,aA]
   | it o=>simp only[resolve,aA]
   | any=>simp only[resolve,aA]
   | bool b=>simp only[resolve]; exact hr.mono hl
   | int k n=>simp only[resolve]; exact hr.mono hl
   | str s=>simp only[resolve]; exact hr.mono hl
   | a8=>simp only[resolve]; exact hr.mono hl
   | ag=>simp only[resolve]; exact hr.mono hl
   | kx=>simp only[resolve]; exact hr.mono hl
   | eA=>simp only[resolve]; exact hr.mono hl
   | dE=>simp only[resolve]; exact hr.mono hl
theorem Pure.Cn {C:de} {f:Nat} {args:List AV} {x:AV} (EB:∀ i,closed (C.AM i)=true) (hargs:cD args=true) (hx:closed x=true) (d:Nat)
 (h:ae C f args (bU ⟨.e,0⟩) (λ r U=>∃ v,r=.ret v/\resolve d U v=x)):Pure C f args x:=by
 intro U R hR g w vs hs hG ha;let g0:Gh:={ base:=w.heap.size,w0:=w,place:=λ _=>none,cJ:=g.cJ,cu:=g.cu,res:=λ _=>false };have wE:bw g0 (bU ⟨.e,0⟩) w:={
  below:=Below.refl _ _
  le:=bX _
  cJ:=hs.cJ
  cu:=hs.cu
  live:=λ b x hb=>by cases hb
  apart:=λ b b' x x' p p' hb=>by cases hb
  res:=λ r hr=>by cases hr
  fin:=⟨0,λ n hn=>by cases hn; rfl,λ _ _=>rfl⟩ }
 have Sg:jx C g0:=⟨λ i=>aA.closed (g:=g) (g':=g0) (λ _ _ _ h=>h) (λ _ _ h=>h) _ _ (EB i) (hG.1 i),λ i cs hi=>by
  obtain⟨k1,t,fr,k2⟩:=hG.2 i cs hi;refine⟨Nat.lt_of_lt_of_le k1 hs.le,t,fr,?_⟩;show w.heap[i]?=_;rw[hs.below.block i k1]; exact k2⟩
 have Si:aH g0 args vs:=aH.closed (g:=g) (g':=g0) (λ _ _ _ h=>h) (λ _ _ h=>h) _ _ hargs ha;refine (h g0 w vs wE Sg Si).mono ?_;rintro e w' hp;cases e with
 | panicked ch=>obtain⟨g',ad,y,v,_,_,_,_,z,hz,_⟩:=hp; cases hz
 | outgrown=>exact hp.elim
 | returned v =>
   obtain⟨g',ad,y,h1,h2,h3,z,hz,hres⟩:=hp;cases hz;have ck:=De h2 d y v h3;rw[hres]at ck;have vH:=h2.EV;have hle:=h1.trans vH;have ako:g'.base=w.heap.size:=h1.base;have yW:Below w.heap.size w w':=by
    have:=h2.below;rw[h1.base,h1.w0]at this;exact this
   let gF:Gh:={ base:=g.base,w0:=g.w0,place:=g.place,cJ:=(g'.all w').cJ,cu:=(g'.all w').cu,res:=g.res };have Ky:Gh.Le g gF:=⟨rfl,rfl,λ _ _ h=>h,λ b o u hu=>hle.cJ b o u hu,λ b u hu=>hle.cu b u hu,λ _ h=>h,
    λ b o hb=>hle.A9 b o (by show b<w.heap.size; have:=hs.le; omega),λ b hb=>hle.ye b (by show b<w.heap.size; have:=hs.le; omega)⟩
   refine⟨gF,U,x,Ky,?_,aA.closed (g:=g'.all w') (g':=gF) (λ _ _ _ h=>h) (λ _ _ h=>h) x v hx ck,hR⟩;exact {
    below:=hs.below.trans (yW.mono hs.le)
    le:=Nat.le_trans hs.le yW.size
    cJ:=λ q o u hu=>yL h2 q o u hu
    cu:=λ q es c hu=>xf h2 q es c hu
    live:=λ b l hb=>by
     obtain⟨p,k1,k2,k3⟩:=hs.live b l hb;have aN:=k3.lt;exact⟨p,k1,k2,k3.frame Ky.r (yW.block _ aN) (λ o=>hle.A9 _ o aN) (hle.ye _ aN)⟩
    apart:=hs.apart
    res:=λ r hr=>by
     obtain⟨k1,k2⟩:=hs.res r hr;exact⟨k1,by rw[yW.block _ (mG.1 k2).1]; exact k2⟩
    fin:=hs.fin }
def ahr (d:Nat) (x:AV):KR
 | .ret v,e=>kD (resolve d (bU e) v) x
 | .panic _,_=>false
theorem Pure.gu {V:jP} (hV:th V) (n d:Nat) {f:Nat} {args:List AV} {x:AV} (EB:∀ i,closed (V.C.AM i)=true) (h:(cD args&&closed x&&uV V (pL V n) f args ⟨.e,0⟩ (ahr d x))=true):Pure V.C f args x:=by
 simp only[cb]at h;refine Pure.Cn EB h.1.1 h.1.2 d ((aec hV n f args ⟨.e,0⟩ _ h.2).mono ?_);rintro r U ⟨e,rfl,hk⟩;cases r with
 | ret v=>exact⟨v,rfl,xP hk⟩
 | panic v=>cases hk
end Go.Rip
namespace Go.Rip
open Go.RowKit
def Zj (R:St->Prop):Ex->Env->St->Prop
 | .normal,_,U=>R U
 | .ret,_,U=>R U
 | _,_,_=>False
theorem acb {C:de} {f:FuncId} {fn:Func} {id:Nat} {o:Oper} {d:Nat} {rest:Code} {args:List AV} {U:St} {g:Gh} {w:World} {vs:List Value}
 (hf:C.P.funcs[f]?=some fn) (hb:fn.body=some (.seq (.region id #[o] false) rest)) (hres:fn.results=#[]) (hop:∀ ev w,(execOp ev o).run C.P w=.ok .recover w) (hd:o.dst=some d) (hdn:d<fn.ntmps) (hg:o.guard=none)
 (hlen:args.length<=fn.ntmps) (hs:bw g U w) (hG:jx C g) (ha:aH g args vs) {x:AV} {v:Value} {u u':FrameMode} (hx:aA g x v)
 (hu:(u=.returning/\v=.nilIface/\u'=.returning)\/(u=.panicking [{ v,recovered:=false }]/\u'=.panicking [{ v,recovered:=true }])) (R:St->Prop)
 (h:bL C fn.ntmps .bare rest (Zj R) ((Env.kX args).put d x) U) :
 CallsDIn Fence.wide 0 C.P f vs.toArray u w (λ e u2 w'=>∃ v',e=.returned v'/\u2=u'/\∃ g' ad,Gh.Le g g'/\bw g' ad w'/\R ad):=by
 refine callsDIn_of_wpSIn hf hb trivial λ JW cs hm=>?_;refine wpSIn_seq (wpSIn_region ?_);have hl:=ha.length;have fH:(vs.toArray++Array.replicate (fn.ntmps-vs.toArray.size) undef).size=fn.ntmps:=by simp; omega
 have Gg:iQ g (Env.kX args) (vs.toArray++Array.replicate (fn.ntmps-vs.toArray.size) undef):=Dp args vs _ ha;have aiX:=Gg.put (d:=d) (by rw[fH]; exact hdn) hx;have after:∀ En,(En={ JW with mode:=u' }::cs)->rest.wpSIn Fence.wide 0 C.P (bodyPostS C.P fn JW cs λ e u2 w'=>∃ v',e=.returned v'/\u2=u'/\∃ g' ad,Gh.Le g g'/\bw g' ad w'/\R ad)
  (Act.put { tmps:=vs.toArray++Array.replicate (fn.ntmps-vs.toArray.size) undef,defers:=[] } o.dst v) En w:=λ En x7=>by
  refine wpSIn_of_wpIn rfl ?_;have:=h g w (Act.put { tmps:=vs.toArray++Array.replicate (fn.ntmps-vs.toArray.size) undef,defers:=[] } o.dst v) none hs hG (by rw[hd]; exact aiX) (by rw[(qe _ _ _).2]; exact fH) trivial;refine wpIn_mono this ?_;rintro e a w' ⟨q1,g',ad,eP,ms,q2,q3,q4,q5,q6,q7⟩;have AZ:ms=[]:=q3.none rfl;subst AZ;rw[(qe _ _ _).1]at q2;simp only[oB,eH]at q2;have hr:∀ tmps,(results fn tmps).run C.P w'=.ok (.tuple #[]) w':=λ tmps=>by
   unfold results;rw[hres];simp
  cases e with
  | normal=>exact⟨q2,u',x7,_,hr _,_,rfl,rfl,g',ad,q4,q5,q7⟩
  | ret=>exact⟨q2,u',x7,_,hr _,_,rfl,rfl,g',ad,q4,q5,q7⟩
  | exit id=>exact q7.elim
  | panic ch=>obtain⟨_,_,_,_,hf⟩:=q7; exact hf.elim
  | goto l=>exact q7.elim
  | outgrown=>exact q7.elim
 have hw:Region.wanted o (yielded #[o] (vs.toArray++Array.replicate (fn.ntmps-vs.toArray.size) undef))=true:=by simp[Region.wanted,hg]
 show wpOpsSIn Fence.wide 0 C.P #[o] _ [0] _ _ _;simp only[wpOpsSIn,List.getElem?_toArray,List.getElem?_cons_zero,hw,if_true,hop];refine⟨λ _ _=>trivial,?_⟩;rcases hu with ⟨rfl,rfl,rfl⟩|⟨rfl,rfl⟩
 . have e1:recoverD (JW::cs)=none:=by simp[recoverD,hm]
   rw[e1];exact after _ (by rw[<- hm])
 . have e1:recoverD (JW::cs)=some (v,{ JW with mode:=.panicking [{ v,recovered:=true }] }::cs):=by simp[recoverD,hm]
   rw[e1];exact after _ rfl
end Go.Rip
