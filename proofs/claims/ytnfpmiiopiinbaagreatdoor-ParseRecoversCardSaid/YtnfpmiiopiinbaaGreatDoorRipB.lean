/- Lemmas for the proof: no conditions. -/
import Derived.Test.YtnfpmiiopiinbaaGreatDoorRipZz
import Derived.Test.YtnfpmiiopiinbaaGreatDoorRipA
import Derived.OrdersIn
import Derived.RecoverIn
set_option linter.unusedVariables false
set_option linter.unusedSimpArgs false
set_option linter.loopingSimpArgs false
namespace Go.Rip
open Go.RowKit
inductive cM where
 | ret (x:AV)
 | panic (x:AV)
inductive Ex where
 | normal
 | exit (id:Nat)
 | ret
 | panic (x:AV)
def FW (ro:Option Nat):Fence:={ Fence.wide with round:=ro }
def mM (g:Gh) (R:cM->St->Prop):Ending->World->Prop
 | .returned v,w'=>∃ g' ad x,Gh.Le g g'/\aY g' ad w'/\av g' x v/\R (.ret x) ad
 | .panicked ch,w'=>∃ g' ad x v,ch=[{ v,recovered:=false }]/\Gh.Le g g'/\aY g' ad w'/\av g' x v/\R (.panic x) ad
 | .outgrown,_=>False
def ae (C:ck) (f:FuncId) (args:List AV) (U:St) (R:cM->St->Prop):Prop :=
 ∀ g w vs,aY g U w->fQ C g->aC g args vs->CallsIn Fence.wide 0 C.P f (List.toArray vs) w (mM g R)
def kh (C:ck) (o:Nat) (args:List AV) (U:St) (R:cM->St->Prop):Prop :=
 ∀ g w vs x,aY g U w->fQ C g->aC g args vs->g.place o=some x->∃ fn tmps assign body,(Instr.yield x.aE (List.toArray vs)).run C.P w=.ok (.round x.aE fn tmps assign body) w /\
  RoundIn Fence.wide 0 C.P x.aE fn tmps assign body w (mM g R)
theorem mM.mono {g:Gh} {R R':cM->St->Prop} {e:Ending} {w:World} (h:mM g R e w) (hr:∀ r U,R r U->R' r U):mM g R' e w:=by
 cases e with
 | returned v=>obtain⟨g',ad,x,h1,h2,h3,h4⟩:=h; exact⟨g',ad,x,h1,h2,h3,hr _ _ h4⟩
 | panicked ch=>obtain⟨g',ad,x,v,h0,h1,h2,h3,h4⟩:=h; exact⟨g',ad,x,v,h0,h1,h2,h3,hr _ _ h4⟩
 | outgrown=>exact h
theorem ae.mono {C:ck} {f:FuncId} {args:List AV} {U:St} {R R':cM->St->Prop} (h:ae C f args U R) (hr:∀ r U,R r U->R' r U):ae C f args U R' :=
 λ g w vs hs hG ha=>(h g w vs hs hG ha).mono λ _ _ hp=>hp.mono hr
theorem kh.mono {C:ck} {f:Nat} {args:List AV} {U:St} {R R':cM->St->Prop} (h:kh C f args U R) (hr:∀ r U,R r U->R' r U):kh C f args U R' :=
 λ g w vs x hs hG ha hx=>let ⟨a,b,c,d,e,r⟩:=h g w vs x hs hG ha hx; ⟨a,b,c,d,e,r.mono λ _ _ hp=>hp.mono hr⟩
def aj (K:AV->St->Prop) (Kp:AV->St->Prop):cM->St->Prop
 | .ret x,U=>K x U
 | .panic x,U=>Kp x U
def ay.wp (C:ck) (U:St) (K:AV->St->Prop) (Kp:AV->St->Prop):ay->Prop
 | .val v=>K v U
 | .kI v b x=>K v (U.set b x)
 | .new k del x=>∀ b,(U.qh del).cV b->K (k.at b) ((U.qh del).new b x)
 | .jF b l=>∀ p∈l,K p.1 (U.set b p.2)
 | .enter f args=>ae C f args U (aj K Kp)
 | .yield l args=>kh C l args U (aj K Kp)
 | .panic v=>Kp v U
 | @ay.cond p _ r=>p/\r.wp C U K Kp
 | .bad=>False
def fI (ops:Array Oper) (ρ:Env):Option (Nat×Bool)->AV
 | none=>.bool true
 | some (j,want)=>match (ops[j]?).bind (·.dst) with
   | some d=>match ρ.get d with
     | .bool b=>.bool (b==want)
     | .aQ []=>.bool false
     | _=>.any
   | none=>.any
def aA:AV->Prop->Prop->Prop
 | .bool b,A,B=>(b=true->A)/\(b=false->B)
 | _,_,_=>False
def nj (C:ck) (mu:List Nat) (ops:Array Oper):List Oper->Env->St->(Env->St->Prop)->(AV->St->Prop)->Prop
 | [],ρ,U,K,_=>K ρ U
 | o::rest,ρ,U,K,Kp=>aA (fI ops ρ o.guard)
    ((gV C (match o.dst with|some d=>mu.contains d|none=>false) o.op ρ U).wp C U (λ v ad=>nj C mu ops rest (ρ.dw o.dst v) ad K Kp) Kp)
    (nj C mu ops rest (ρ.dw o.dst (.aQ [])) U K Kp)
def Dx (r:Nat):Deferred:={ target:=.collected r,args:=#[] }
def D9 (g:Gh) (Q:Ex->Env->St->Prop) (ρ:Env) (U:St):Exit->Prop
 | .normal=>Q .normal ρ U
 | .exit id=>Q (.exit id) ρ U
 | .ret=>Q .ret ρ U
 | .panic ch=>∃ x v,ch=[{ v,recovered:=false }]/\av g x v/\Q (.panic x) ρ U
 | .goto _=>False
 | .outgrown=>False
inductive Ro where
 | fn
 | bare
 | round (o:Nat)
def Ro.nm:Ro->Bool
 | .bare=>true
 | _=>false
structure mE (nm:Bool) (g g':Gh) (ms:List Nat):Prop where
 none:nm=true->ms=[]
 nodup:ms.Nodup
 res:∀ r∈ms,g'.res r=true/\g.res r=false
theorem jQ (nm:Bool) (g g':Gh):mE nm g g' []:=⟨λ _=>rfl,List.nodup_nil,by simp⟩
theorem mE.append {nm:Bool} {g g1 g2:Gh} {m1 m2:List Nat} (h1:mE nm g g1 m1) (h2:mE nm g1 g2 m2) (l1:Gh.Le g g1) (l2:Gh.Le g1 g2):mE nm g g2 (m2++m1):=by
 refine⟨λ h=>by rw[h1.none h,h2.none h]; rfl,List.nodup_append.2 ⟨h2.nodup,h1.nodup,λ x hx y hy e=>?_⟩,λ r hr=>?_⟩
 . subst e;have:=(h2.res x hx).2;rw[(h1.res x hy).1]at this; cases this
 . simp only[fN]at hr;rcases hr with hr|hr
   . refine⟨(h2.res r hr).1,?_⟩;cases e:g.res r with
     | false=>rfl
     | true=>have:=(h2.res r hr).2; rw[l1.res _ e]at this; cases this
   . exact⟨l2.res _ (h1.res r hr).1,(h1.res r hr).2⟩
def oN (g:Gh) (nt:Nat) (nm:Bool) (ds:List Deferred) (Q:Ex->Env->St->Prop) (e:Exit) (a:Act) (w:World):Prop :=
 a.tmps.size=nt/\∃ g' U ρ ms,a.defers=ms.map Dx++ds/\mE nm g g' ms/\Gh.Le g g'/\aY g' U w/\fj g' ρ a.tmps/\D9 g' Q ρ U e
def DM (g:Gh):Ro->Option Nat->Prop
 | .fn,none=>True
 | .bare,none=>True
 | .round o,some l=>∃ x,g.place o=some x/\x.aE=l
 | _,_=>False
theorem DM.mono {g g':Gh} (h:Gh.Le g g') {ro:Ro} {fr:Option Nat} (hr:DM g ro fr):DM g' ro fr:=by
 cases ro<;>cases fr<;>simp only[DM]at hr ⊢
 obtain⟨x,h1,h2⟩:=hr;exact⟨x,h.place _ _ h1,h2⟩
def bo (C:ck) (nt:Nat) (ro:Ro) (c:Code) (Q:Ex->Env->St->Prop) (ρ:Env) (U:St):Prop :=
 ∀ g w a fr,aY g U w->fQ C g->fj g ρ a.tmps->a.tmps.size=nt->DM g ro fr->c.wpIn (FW fr) 0 C.P (oN g nt ro.nm a.defers Q) a w
section
variable {C:ck} {g:Gh} {U:St} {w:World} {nt:Nat} {nm:Bool} {ro:Ro} {Q:Ex->Env->St->Prop} {ρ:Env}
theorem D9.mono {Q':Ex->Env->St->Prop} {e:Exit} (h:D9 g Q ρ U e) (hq:∀ e ρ U,Q e ρ U->Q' e ρ U):D9 g Q' ρ U e:=by
 cases e<;>first
  | exact hq _ _ _ h
  | (obtain⟨x,v,h1,h2,h3⟩:=h; exact⟨x,v,h1,h2,hq _ _ _ h3⟩)
  | exact h
theorem bo.mono {c:Code} {Q':Ex->Env->St->Prop} (h:bo C nt ro c Q ρ U) (hq:∀ e ρ U,Q e ρ U->Q' e ρ U):bo C nt ro c Q' ρ U :=
 λ g w a fr h1 h2 h3 h4 vB=>wpIn_mono (h g w a fr h1 h2 h3 h4 vB) λ e a' w' ⟨k1,g',ad,de,ms,k2,k3,k4,k5,k6,k7⟩=>⟨k1,g',ad,de,ms,k2,k3,k4,k5,k6,k7.mono hq⟩
theorem oN.back {g':Gh} {ds:List Deferred} {ms:List Nat} {e:Exit} {a:Act} (h:oN g' nt nm (ms.map Dx++ds) Q e a w) (wu:mE nm g g' ms) (hle:Gh.Le g g'):oN g nt nm ds Q e a w:=by
 obtain⟨k1,g2,ad,de,Fc,k2,k3,k4,k5,k6,k7⟩:=h;exact⟨k1,g2,ad,de,Fc++ms,by rw[k2,List.map_append,nu],wu.append k3 hle k4,hle.trans k4,k5,k6,k7⟩
def W2 (K:Env->St->Prop) (Q:Ex->Env->St->Prop):Ex->Env->St->Prop
 | .normal,ρ,U=>K ρ U
 | e,ρ,U=>Q e ρ U
theorem bo.seq {x y:Code} (h:bo C nt ro x (W2 (λ ρ U=>bo C nt ro y Q ρ U) Q) ρ U):bo C nt ro (.seq x y) Q ρ U:=by
 intro g w a fr h1 h2 h3 h4 vB;refine wpIn_seq (wpIn_mono (h g w a fr h1 h2 h3 h4 vB) ?_);rintro e a' w' ⟨k1,g',ad,de,ms,k2,k3,k4,k5,k6,k7⟩;cases e with
 | normal =>
   have:=k7 g' w' a' fr k5 (h2.mono k4) k6 k1 (vB.mono k4);rw[k2]at this;exact wpIn_mono this λ e a w hp=>hp.back k3 k4
 | exit id=>exact⟨k1,g',ad,de,ms,k2,k3,k4,k5,k6,k7⟩
 | ret=>exact⟨k1,g',ad,de,ms,k2,k3,k4,k5,k6,k7⟩
 | panic ch=>exact⟨k1,g',ad,de,ms,k2,k3,k4,k5,k6,k7⟩
 | goto l=>exact k7.elim
 | outgrown=>exact k7.elim
theorem wW {a:Act} {ds:List Deferred} {e:Exit} (h:aY g U w) (hr:fj g ρ a.tmps) (hn:a.tmps.size=nt) (hd:a.defers=ds) (hq:D9 g Q ρ U e):oN g nt nm ds Q e a w :=
 ⟨hn,g,U,ρ,[],by simpa using hd,jQ _ _ _,Gh.Le.refl g,h,hr,hq⟩
theorem bo.skip (h:Q .normal ρ U):bo C nt ro .skip Q ρ U:=λ g w a fr h1 h2 h3 h4 _=>wpIn_skip (wW h1 h3 h4 rfl h)
theorem bo.exit {id:Nat} (h:Q (.exit id) ρ U):bo C nt ro (.exit id) Q ρ U:=λ g w a fr h1 h2 h3 h4 _=>wpIn_exit (wW h1 h3 h4 rfl h)
theorem bo.ret (h:Q .ret ρ U):bo C nt ro .ret Q ρ U:=λ g w a fr h1 h2 h3 h4 _=>wpIn_ret (wW h1 h3 h4 rfl h)
theorem bo.cond {c:Operand} {x y:Code} {b:Bool} (hc:ρ.ev C c=.bool b) (h1:b=true->bo C nt ro x Q ρ U) (h2:b=false->bo C nt ro y Q ρ U):bo C nt ro (.cond c x y) Q ρ U:=by
 intro g w a fr k1 k2 k3 k4 k5;have:=qV k2 k3 c;rw[hc]at this;simp only[av]at this;exact wpIn_cond_split this (λ e=>h1 e g w a fr k1 k2 k3 k4 k5) (λ e=>h2 e g w a fr k1 k2 k3 k4 k5)
theorem bo.YA {c:Operand} {x y:Code} (hc:ρ.ev C c=.bool true) (h1:bo C nt ro x Q ρ U):bo C nt ro (.cond c x y) Q ρ U:=bo.cond hc (λ _=>h1) (λ h=>by cases h)
theorem bo.Yz {c:Operand} {x y:Code} (hc:ρ.ev C c=.bool false) (h1:bo C nt ro y Q ρ U):bo C nt ro (.cond c x y) Q ρ U:=bo.cond hc (λ h=>by cases h) (λ _=>h1)
def vT (id:Nat) (Q:Ex->Env->St->Prop):Ex->Env->St->Prop
 | .exit yD,ρ,U=>if yD=id then Q .normal ρ U else Q (.exit yD) ρ U
 | e,ρ,U=>Q e ρ U
theorem bo.block {id:Nat} {c:Code} (h:bo C nt ro c (vT id Q) ρ U):bo C nt ro (.block id c) Q ρ U:=by
 intro g w a fr h1 h2 h3 h4 vB;refine wpIn_block (wpIn_mono (h g w a fr h1 h2 h3 h4 vB) ?_);rintro e a' w' ⟨k1,g',ad,de,ms,k2,k3,k4,k5,k6,k7⟩;cases e with
 | normal=>exact⟨k1,g',ad,de,ms,k2,k3,k4,k5,k6,k7⟩
 | exit yD =>
   have k7:vT id Q (.exit yD) de ad:=k7;simp only[vT]at k7;simp only[Exit.inBlock];split
   . rename_i e; rw[if_pos e]at k7; exact⟨k1,g',ad,de,ms,k2,k3,k4,k5,k6,k7⟩
   . rename_i e; rw[if_neg e]at k7; exact⟨k1,g',ad,de,ms,k2,k3,k4,k5,k6,k7⟩
 | ret=>exact⟨k1,g',ad,de,ms,k2,k3,k4,k5,k6,k7⟩
 | panic ch=>exact⟨k1,g',ad,de,ms,k2,k3,k4,k5,k6,k7⟩
 | goto l=>exact k7.elim
 | outgrown=>exact k7.elim
theorem bo.loop {c:Code} (I:Nat->Env->St->Prop) {n:Nat} (h0:I n ρ U) (round:∀ n ρ U,I n ρ U->bo C nt ro c (W2 (λ de ad=>∃ m,m<n/\I m de ad) Q) ρ U):bo C nt ro (.loop c) Q ρ U:=by
 intro g w a fr h1 h2 h3 h4 vB;let J:Nat->Act->World->Prop:=λ n a' w'=>a'.tmps.size=nt/\∃ g' ad de ms,a'.defers=ms.map Dx++a.defers/\mE ro.nm g g' ms/\Gh.Le g g'/\aY g' ad w'/\fj g' de a'.tmps/\I n de ad;have ex:∀ a' w',(∃ n,J n a' w')->∃ n,J n a' w'/\∀ m,m<n->¬ J m a' w':=λ a' w' ⟨n,hn⟩=>by
  induction n using Nat.strongRecOn with
  | _ n ih =>
    by_cases hm:∃ m,m<n/\J m a' w'
    . obtain⟨m,Hv,Rk⟩:=hm; exact ih m Hv Rk
    . exact⟨n,hn,λ m Hv Rk=>hm ⟨m,Hv,Rk⟩⟩
 classical
 let μ:Act->World->Nat:=λ a' w'=>if h:∃ n,J n a' w' then (ex a' w' h).choose else 0
 have hμ:∀ a' w',(∃ n,J n a' w')->J (μ a' w') a' w'/\∀ m,m<μ a' w'->¬ J m a' w':=λ a' w' h=>by
  have:=(ex a' w' h).choose_spec;simp only[μ,dif_pos h]; exact this
 refine wpIn_loop (λ a' w'=>∃ n,J n a' w') μ ⟨n,h4,g,U,ρ,[],by simp,jQ _ _ _,Gh.Le.refl g,h1,h3,h0⟩ ?_;intro a' w' hJ;obtain⟨⟨k1,g',ad,de,ms,k2,k3,k4,k5,k6,k7⟩,_⟩:=hμ a' w' hJ;refine wpIn_mono (round _ de ad k7 g' w' a' fr k5 (h2.mono k4) k6 k1 (vB.mono k4)) ?_;intro e a2 w2 hp;rw[k2]at hp;have hp:=hp.back k3 k4;obtain⟨q1,g2,bI,o5,Fc,q2,q3,q4,q5,q6,q7⟩:=hp;cases e with
 | normal =>
   obtain⟨m,hm,hI⟩:=q7;have Vp:J m a2 w2:=⟨q1,g2,bI,o5,Fc,q2,q3,q4,q5,q6,hI⟩;refine⟨⟨m,Vp⟩,?_⟩;have:=(hμ a2 w2 ⟨m,Vp⟩).2;rcases gI (μ a2 w2) (μ a' w') with h|h
   . exact h
   . exact absurd Vp (this m (by omega))
 | exit id=>exact⟨q1,g2,bI,o5,Fc,q2,q3,q4,q5,q6,q7⟩
 | ret=>exact⟨q1,g2,bI,o5,Fc,q2,q3,q4,q5,q6,q7⟩
 | panic ch=>exact⟨q1,g2,bI,o5,Fc,q2,q3,q4,q5,q6,q7⟩
 | goto l=>exact q7.elim
 | outgrown=>exact q7.elim
end
end Go.Rip
namespace Go.Rip
open Go.RowKit
section
variable {C:ck} {g:Gh} {U:St} {w:World} {nt:Nat} {nm:Bool} {ro:Ro} {fr:Option Nat} {Q:Ex->Env->St->Prop} {ρ:Env}
def zh (nt:Nat) (o:Oper):Bool :=
 (match o.dst with|some d=>decide (d<nt)|none=>true)&&(match o.op with|.defer _=>false|_=>true)
def jt (nt:Nat) (ops:Array Oper):Bool:=ops.toList.all (zh nt)
theorem yq {ops:Array Oper} {a:Act} (hr:fj g ρ a.tmps) {o:Oper} {b:Bool} (h:fI ops ρ o.guard=.bool b):Region.wanted o (yielded ops a.tmps)=b:=by
 unfold fI at h;unfold Region.wanted;cases hg:o.guard with
 | none=>simp[hg]at h; simp[h]
 | some jw =>
   obtain⟨j,want⟩:=jw;simp only[hg]at h ⊢;split at h
   . rename_i d hd;split at h
     . rename_i b' hb;simp only[AV.bool.injEq]at h;subst h;have:=hr d;rw[hb]at this;simp only[av]at this;have qi:a.tmps[d]?=some (.bool b'):=by
        rw[Array.getD_eq_getD_getElem?]at this;cases ht:a.tmps[d]? with
        | none=>rw[ht]at this; simp[undef]at this
        | some v=>rw[ht]at this; simp at this; rw[this]
       unfold yielded;rw[hd];simp only[Option.bind_some,qi];cases b'<;>cases want<;>rfl
     . rename_i hb;simp only[AV.bool.injEq]at h;subst h;have:=hr d;rw[hb]at this;simp only[av,aC]at this;obtain⟨vs,this,rfl⟩:=this;have qi:∀ b,a.tmps[d]?≠some (.bool b):=λ b dR=>by
        rw[Array.getD_eq_getD_getElem?,dR]at this;simp at this
       unfold yielded;rw[hd];simp only[Option.bind_some]
       first
        | rfl
        | (split
           . rename_i b' dR; exact absurd dR (qi _)
           . rfl)
     . cases h
   . cases h
theorem mi (a:Act) (dst:Option Tmp) (v:Value):(a.put dst v).defers=a.defers/\(a.put dst v).tmps.size=a.tmps.size:=by
 cases dst<;>simp[Act.put]
theorem fj.dw {a:Act} (hr:fj g ρ a.tmps) {dst:Option Tmp} {x:AV} {v:Value} (hd:∀ d,dst=some d->d<a.tmps.size) (hx:av g x v):fj g (ρ.dw dst x) (a.put dst v).tmps:=by
 cases dst with
 | none=>exact hr
 | some d=>exact hr.put (hd d rfl) hx
theorem sy:av g (.aQ []) undef:=by simp only[av]; exact⟨[],rfl,by simp[aC]⟩
def KQ (Q:Ex->Env->St->Prop):Env->St->Prop:=λ ρ U=>Q .normal ρ U
def vp (Q:Ex->Env->St->Prop):AV->St->Prop:=λ x U=>∀ ρ,Q (.panic x) ρ U
theorem nW {o:Oper} (cw:zh nt o=true) {mu:Bool} {K:AV->St->Prop} {Kp:AV->St->Prop} {ds:List Deferred} {next:Act->World->Prop} {a:Act}
 (hs:aY g U w) (hG:fQ C g) (hr:fj g ρ a.tmps) (hn:a.tmps.size=nt)
 (h:(gV C mu o.op ρ U).wp C U K Kp)
 (mH:∀ g' ad w' x v,Gh.Le g g'->aY g' ad w'->av g' x v->K x ad->next (a.put o.dst v) w')
 {QQ:Exit->Act->World->Prop} (EC:∀ g' ad w' x v,Gh.Le g g'->aY g' ad w'->av g' x v->Kp x ad->QQ (.panic [{ v,recovered:=false }]) a w') :
 o.wpIn (FW fr) 0 C.P a w next QQ:=by
 refine⟨λ _ _=>trivial,?_⟩;have Pj:∀ c,o.op≠.defer c:=λ c e=>by simp[zh,e]at cw
 rw[Oper.semAt_eq _ _ _ Pj];have fits:=PL (C:=C) hs hG hr mu o;generalize hres:(execOp a.eval o).run C.P w=res at fits ⊢;generalize gV C mu o.op ρ U=r at fits h;have val:∀ {x ad},(∃ u w' g',(res=.ok (.value u) w'\/(res=.ok .skip w'/\u=undef))/\Gh.Le g g'/\aY g' ad w'/\av g' x u)->K x ad->o.uponIn (FW fr) 0 C.P a next QQ res:=by
  rintro x ad ⟨u,w',g',hu,hle,dK,hx⟩ hk;rcases hu with rfl|⟨rfl,rfl⟩
  . exact mH g' ad w' x u hle dK hx hk
  . exact mH g' ad w' x undef hle dK hx hk
 induction r with
 | val v=>exact val fits h
 | kI v b x=>exact val fits h
 | new k del x=>obtain⟨u,w',g',b,rfl,hb,hle,dK,hx⟩:=fits; exact mH g' _ w' _ u hle dK hx (h b hb)
 | jF b l=>obtain⟨u,w',g',v,x,rfl,hm,hle,dK,hx⟩:=fits; exact mH g' _ w' _ u hle dK hx (h (v,x) hm)
 | enter f args =>
   obtain⟨vs,w',rfl,dK,ha⟩:=fits;refine⟨λ hd=>by simp[FW,Fence.wide]at hd,?_⟩;have hc:CallsIn (FW fr) 0 C.P f (List.toArray vs) w' (mM g (aj K Kp)):=h g w' vs dK hG ha;refine hc.mono ?_;rintro e w2 hp;cases e with
   | returned v=>obtain⟨g',ad,x,h1,h2,h3,h4⟩:=hp; exact mH g' ad w2 x v h1 h2 h3 h4
   | panicked ch=>obtain⟨g',ad,x,v,rfl,h1,h2,h3,h4⟩:=hp; exact EC g' ad w2 x v h1 h2 h3 h4
   | outgrown=>exact hp.elim
 | yield l args =>
   obtain⟨vs,x,w0,w',hx,rfl,rfl,dK,ha⟩:=fits;obtain⟨fn,tmps,assign,body,hy,hR⟩:=h g w' vs x dK hG ha hx;rw[hy];refine⟨λ hd=>by simp[FW,Fence.wide]at hd,?_⟩;have hc:RoundIn (FW fr) 0 C.P x.aE fn tmps assign body w' (mM g (aj K Kp)):=hR;refine hc.mono ?_;rintro e w2 hp;cases e with
   | returned v=>obtain⟨g',ad,x,h1,h2,h3,h4⟩:=hp; exact mH g' ad w2 x v h1 h2 h3 h4
   | panicked ch=>obtain⟨g',ad,x,v,rfl,h1,h2,h3,h4⟩:=hp; exact EC g' ad w2 x v h1 h2 h3 h4
   | outgrown=>exact hp.elim
 | panic v=>obtain⟨u,w',rfl,dK,hx⟩:=fits; exact EC g _ w' v u (Gh.Le.refl g) dK hx h
 | cond p r ih=>exact ih (fits h.1) h.2
 | bad=>exact h.elim
theorem uP {mu:List Nat} {ops:Array Oper} (cw:jt nt ops=true) (g0:Gh):∀ (l:List Nat) (g:Gh) (U:St) (w:World) (ρ:Env) (a:Act) (ds:List Deferred),Gh.Le g0 g->aY g U w->fQ C g->fj g ρ a.tmps->a.tmps.size=nt->a.defers=ds ->
 nj C mu ops (l.filterMap (ops[·]?)) ρ U (KQ Q) (vp Q)->wpOpsIn (FW fr) 0 C.P ops (oN g0 nt nm ds Q) l a w
 | [],g,U,w,ρ,a,ds,h0,hs,hG,hr,hn,hd,h=>by
   simp only[wpOpsIn];exact⟨hn,g,U,ρ,[],by simpa using hd,jQ _ _ _,h0,hs,hr,h⟩
 | i::rest,g,U,w,ρ,a,ds,h0,hs,hG,hr,hn,hd,h=>by
   simp only[wpOpsIn];cases ho:ops[i]? with
   | none =>
     simp only[List.filterMap_cons,ho]at h;exact uP cw g0 rest g U w ρ a ds h0 hs hG hr hn hd h
   | some o =>
     dsimp only;simp only[List.filterMap_cons,ho,nj]at h;have kU:o∈ops.toList:=by
      have:=gA (l:=ops.toList) (i:=i) (a:=o) (by rw[jm]; exact ho);exact this
     have EB:zh nt o=true:=by
      unfold jt at cw;rw[eH]at cw;exact cw o kU
     have Pk:∀ d,o.dst=some d->d<a.tmps.size:=λ d vy=>by
      simp only[zh,vy,bV,dJ]at EB;rw[hn]; exact EB.1
     have go:∀ g' ad w' x v,Gh.Le g g'->aY g' ad w'->av g' x v->nj C mu ops (rest.filterMap (ops[·]?)) (ρ.dw o.dst x) ad (KQ Q) (vp Q)->wpOpsIn (FW fr) 0 C.P ops (oN g0 nt nm ds Q) rest (a.put o.dst v) w':=λ g' ad w' x v hle dK hx hk =>
      uP cw g0 rest g' ad w' (ρ.dw o.dst x) (a.put o.dst v) ds (h0.trans hle) dK (hG.mono hle) ((hr.mono hle).dw Pk hx) (by rw[(mi a o.dst v).2]; exact hn) (by rw[(mi a o.dst v).1]; exact hd) hk
     cases K2:fI ops ρ o.guard<;>rw[K2]at h<;>simp only[aA]at h
     rename_i b;have hw:=yq hr K2;cases b
     . rw[if_neg (by rw[hw]; simp)];exact⟨λ _ _=>trivial,go g U w (.aQ []) undef (Gh.Le.refl g) hs sy (h.2 rfl)⟩
     . rw[if_pos hw];refine nW EB hs hG hr hn (h.1 rfl) go ?_ (ds:=ds);intro g' ad w' x v hle dK hx hk;exact⟨hn,g',ad,ρ,[],by simpa using hd,jQ _ _ _,h0.trans hle,dK,hr.mono hle,x,v,rfl,hx,hk ρ⟩
theorem AF (ops:Array Oper):(List.range ops.size).filterMap (ops[·]?)=ops.toList:=by
 apply List.ext_getElem?;intro i;have:∀ n,n<=ops.size->(List.range n).filterMap (ops[·]?)=ops.toList.take n:=λ n=>by
  induction n with
  | zero=>intro _; simp
  | succ n ih =>
    intro hn;rw[List.range_succ,List.filterMap_append,ih (by omega),zm];have:ops[n]?=some ops[n]:=by simp
    simp[this]
 rw[this ops.size (cN _),zl (by simp)]
theorem bo.region {id:Nat} {ops:Array Oper} (mu:List Nat) (cw:jt nt ops=true) (h:nj C mu ops ops.toList ρ U (KQ Q) (vp Q)):bo C nt ro (.region id ops false) Q ρ U:=by
 intro g w a fr h1 h2 h3 h4 vB;exact wpIn_region (uP cw g (List.range ops.size) g U w ρ a a.defers (Gh.Le.refl g) h1 h2 h3 h4 rfl (by rw[AF]; exact h))
end
end Go.Rip
namespace Go.Rip
open Go.RowKit
def lH (x:AV) (U:St) (x':AV) (ad:St):Prop:=∀ g w v,aY g U w->av g x v->∃ g',Gh.Le g g'/\aY g' ad w/\av g' x' v
theorem lH.refl (x:AV) (U:St):lH x U x U:=λ g w v h hr=>⟨g,Gh.Le.refl g,h,hr⟩
theorem lH.trans {x y z:AV} {a b c:St} (h:lH x a y b) (k:lH y b z c):lH x a z c:=λ g w v hs hr =>
 let ⟨g1,l1,s1,r1⟩:=h g w v hs hr;let ⟨g2,l2,s2,r2⟩:=k g1 w v s1 r1
 ⟨g2,l1.trans l2,s2,r2⟩
theorem lH.freeze {b:Nat} {U:St} {l:List AV} (hb:U.box b=some l):lH (.box b 0) U (.ca l) (U.del b):=λ g w v hs hr=>by
 simp only[av]at hr;obtain⟨x,hx,rfl⟩:=hr;obtain⟨g',vs,hle,_,hi,hl,dK⟩:=hs.freeze hb hx;exact⟨g',hle,dK,by simp only[av]; exact⟨x.aE,0,vs,rfl,hi,hl.mono hle⟩⟩
theorem lH.O8 {b n gy:Nat} {e:TypeId} {U:St} {l:List AV} (hb:U.box b=some l):lH (.ms b 0 n gy e) U (.vec n .eR l) (U.del b):=λ g w v hs hr=>by
 simp only[av]at hr;obtain⟨x,c,hx,rfl,h1,h2,_,_⟩:=hr;obtain⟨g',vs,hle,_,hi,hl,dK⟩:=hs.freeze hb hx;exact⟨g',hle,dK,by simp only[av]; exact⟨x.aE,0,c,vs,rfl,h1,h2,trivial,hi,hl.mono hle⟩⟩
def xR (P:Program) (t:TypeId) (p:AV) (U:St) (k:AV->Prop):Prop :=
 match si P t p U with
 | .val v=>k v
 | @ay.cond q _ (.val v)=>q/\k v
 | _=>False
def sV (P:Program) (ρ:Env) (U:St):List ResultVar->(List AV->Prop)->Prop
 | [],k=>k []
 | .tmp t::rs,k=>sV P ρ U rs λ vs=>k (ρ.get t::vs)
 | .cell t ty::rs,k=>xR P ty (ρ.get t) U λ v=>sV P ρ U rs λ vs=>k (v::vs)
def s0:List AV->AV
 | [x]=>x
 | l=>.aQ l
def abi (P:Program) (fn:Func) (R:cM->St->Prop):Ex->Env->St->Prop
 | .normal,ρ,U|.ret,ρ,U=>sV P ρ U fn.results.toList λ vs=>∃ x ad,lH (s0 vs) U x ad/\R (.ret x) ad
 | .panic x,_,U=>R (.panic x) U
 | .exit _,_,_=>False
def Env.gU (args:List AV):Env:=⟨λ t=>args.getD t (.aQ [])⟩
section
variable {C:ck} {g:Gh} {U:St} {w:World} {nt:Nat} {ro:Ro} {Q:Ex->Env->St->Prop} {ρ:Env}
theorem LI (h:aY g U w) {t:TypeId} {p:AV} {v:Value} (hp:av g p v) {k:AV->Prop} (hk:xR C.P t p U k):∃ u x,(do loadVar t (<- asAddr v):Sem Value).run C.P w=.ok u w/\av g x u/\k x:=by
 unfold xR si at hk;cases hv:lR C.P t with
 | none=>simp[hv]at hk
 | some bs =>
   obtain⟨b,sz⟩:=bs;cases hl:km U p with
   | none=>rw[hv,hl]at hk; cases b<;>simp at hk
   | some l =>
     rw[hv,hl]at hk;obtain⟨i,d,hi,hd,hb,hsz⟩:=mB hv;obtain⟨a,vs,rfl,ha,hr,hc⟩:=pD h hp hl;cases b
     . cases l with
       | nil=>simp[fV]at hk
       | cons x xs =>
         simp only[fV]at hk;simp only[aC]at hr;obtain⟨u,us,rfl,h1,h2⟩:=hr;have:=(hc 0 u rfl).1;have h0:a.add 0=a:=by simp[Addr.add]
         rw[h0]at this;refine⟨u,x,?_,h1,hk⟩;simp only[asAddr,loadVar,bO,cg,bZ,jI hd,hb,bQ,if_false,run_load,this,dO]
     . obtain⟨hle,hk⟩:=hk;have hlen:=hr.length;have fD:(loadCells a (vs.take sz).length).run C.P w=.ok (vs.take sz).toArray w :=
        run_loadCells_list (P:=C.P) w a (vs.take sz) λ j u hu=>by
         rw[List.getElem?_take]at hu;split at hu
         . exact (hc j u hu).1
         . cases hu
       have q9:(vs.take sz).length=sz:=by simp; omega
       rw[q9]at fD;have KL:∀ u∈vs.take sz,u.oneCell'=true:=λ u hu=>by
        obtain⟨j,hj⟩:=List.getElem?_of_mem hu;rw[List.getElem?_take]at hj;split at hj
        . exact (hc j u hj).2
        . cases hj
       refine⟨.agg (vs.take sz).toArray,_,?_,?_,hk⟩
       . simp only[asAddr,loadVar,bO,cg,bZ,jI hd,hb,if_true,dC hi,hsz,fD,dO]
       . simp only[av]; exact⟨_,rfl,KL,hr.take sz⟩
theorem zq (h:aY g U w) {a:Act} (hr:fj g ρ a.tmps):∀ (rs:List ResultVar) (k:List AV->Prop),sV C.P ρ U rs k ->
 ∃ us xs,(rs.mapM (fun
  | .tmp t=>pure (a.tmps.getD t undef)
  | .cell p t=>do loadVar t (<- asAddr (a.tmps.getD p undef)):ResultVar->Sem Value)).run C.P w=.ok us w/\aC g xs us/\k xs
 | [],k,hk=>⟨[],[],by simp,by simp[aC],hk⟩
 | .tmp t::rs,k,hk=>by
   obtain⟨us,xs,h1,h2,h3⟩:=zq h hr rs _ hk;exact⟨a.tmps.getD t undef::us,ρ.get t::xs,by simp only[List.mapM_cons,bO,cg,bZ,h1],by simp only[aC]; exact⟨_,_,rfl,hr t,h2⟩,h3⟩
 | .cell p t::rs,k,hk=>by
   obtain⟨u,x,h4,h5,h6⟩:=LI h (hr p) hk;obtain⟨us,xs,h1,h2,h3⟩:=zq h hr rs _ h6;simp only[bO]at h4;exact⟨u::us,x::xs,by simp only[List.mapM_cons,bO,cg,h4,bZ,h1],by simp only[aC]; exact⟨_,_,rfl,h5,h2⟩,h3⟩
theorem yM (h:aY g U w) {a:Act} (hr:fj g ρ a.tmps) {fn:Func} {k:List AV->Prop} (hk:sV C.P ρ U fn.results.toList k) :
 ∃ u xs,(results fn a.tmps).run C.P w=.ok u w/\av g (s0 xs) u/\k xs:=by
 obtain⟨us,xs,h1,h2,h3⟩:=zq h hr _ k hk;have e:(results fn a.tmps).run C.P w=.ok (if h:us.toArray.size=1 then us.toArray[0] else .tuple us.toArray) w:=by
  unfold results;rw[Array.mapM_eq_mapM_toList];simp only[bO,Sem.run_map,cg];erw [h1];rfl
 refine⟨_,xs,e,?_,h3⟩
 match xs,us,h2 with
 | [],us,h2 =>
   simp only[aC]at h2; subst h2;simp[s0,av,aC]
 | [x],us,h2 =>
   simp only[aC]at h2;obtain⟨u,_,rfl,h4,rfl⟩:=h2;simpa [s0] using h4
 | x::y::zs,us,h2 =>
   have hl:=h2.length;rw[dif_neg (by simp at hl ⊢; omega)];simp only[s0,av];exact⟨us,rfl,h2⟩
theorem yW (args:List AV) (vs:List Value) (n:Nat) (ha:aC g args vs):fj g (Env.gU args) (vs.toArray++Array.replicate n undef):=λ t=>by
 simp only[Env.gU,Array.getD_eq_getD_getElem?,BK,Array.getElem?_append,List.size_toArray,List.getElem?_toArray];have hl:=ha.length
 by_cases ht:t<vs.length
 . rw[if_pos ht];obtain⟨x,hx⟩:∃ x,args[t]?=some x:=⟨args[t]'(by omega),by simp⟩;obtain⟨v,hv,hr⟩:=ha.get hx;rw[hx,hv]; exact hr
 . rw[if_neg ht,rE (by omega)];simp only[Option.getD_none];have:((Array.replicate n undef)[t-vs.length]?).getD undef=undef:=by
    rw[Array.getElem?_replicate]; split<;>rfl
   rw[this]; exact sy
theorem oJ {fn:Func} {a:Act} {R:cM->St->Prop} (g0:Gh):∀ (ms:List Nat) (g:Gh) (w:World) (u:FrameMode),ms.Nodup->(∀ r∈ms,g.res r=true/\g0.res r=false)->Gh.Le g0 g->aY g U w->fj g ρ a.tmps ->
 ((u=.returning/\sV C.P ρ U fn.results.toList λ vs=>∃ x ad,lH (s0 vs) U x ad/\R (.ret x) ad)\/(∃ x v,u=.panicking [{ v,recovered:=false }]/\av g x v/\R (.panic x) U)) ->
 LeavesInM Fence.wide 0 C.P fn a.tmps (mM g0 R) (ms.map Dx) u w
 | [],g,w,u,_,_,hle,hs,hr,h=>by
   simp only[lO,LeavesInM];rcases h with ⟨rfl,h⟩|⟨x,v,rfl,hx,h⟩
   . obtain⟨v,xs,fD,hv,x,ad,ht,hR⟩:=yM hs hr h;obtain⟨g',I9,dK,hx⟩:=ht g w v hs hv;exact⟨v,fD,g',ad,x,hle.trans I9,dK,hx,hR⟩
   . exact⟨g,U,x,v,rfl,hle,hs,hx,h⟩
 | r::ms,g,w,u,hnd,wu,hle,hs,hr,h=>by
   simp only[dY,LeavesInM];refine⟨by rcases h with ⟨rfl,_⟩|⟨_,_,rfl,_⟩<;>simp,.inl ⟨r,{ w with heap:=w.heap.setIfInBounds r (Obj.deferred none) },rfl,?_,?_⟩⟩
   . obtain⟨_,hh⟩:=hs.res r (wu r (by simp)).1;simp[Instr.takeDeferred,getObj,setObj,bO,Sem.run,hh,Result.andThen]
   . have ZX:Gh.qP g { g with res:=λ x=>if x=r then false else g.res x }:=⟨λ _ _ h=>h,λ _ _ _ h=>h,λ _ _ h=>h⟩
     refine oJ g0 ms { g with res:=λ x=>if x=r then false else g.res x } _ u (List.nodup_cons.1 hnd).2 (λ q hq=>?_) ?_ (hs.shut (wu r (by simp)).1) (λ t=>(hr t).dI ZX) ?_
     . refine⟨?_,(wu q (by simp[hq])).2⟩;show (if q=r then false else g.res q)=true
       rw[if_neg (λ e:q=r=>by subst e; exact (List.nodup_cons.1 hnd).1 hq)];exact (wu q (by simp[hq])).1
     . refine⟨hle.base,hle.w0,hle.place,hle.bT,hle.bL,λ q hq=>?_,hle.wC,hle.tD⟩;show (if q=r then false else g.res q)=true
       have cv:q≠r:=λ e=>by subst e; rw[(wu q (by simp)).2]at hq; cases hq
       rw[if_neg cv];exact hle.res q hq
     . rcases h with h|⟨x,v,h1,h2,h3⟩
       . exact .inl h
       . exact .inr ⟨x,v,h1,h2.dI ZX,h3⟩
theorem ae.HX {f:FuncId} {fn:Func} {c:Code} {args:List AV} {R:cM->St->Prop} (hf:C.P.funcs[f]?=some fn) (hb:fn.body=some c) (hlen:args.length<=fn.ntmps)
 (h:bo C fn.ntmps .fn c (abi C.P fn R) (Env.gU args) U):ae C f args U R:=by
 intro g w vs hs hG ha;have hl:=ha.length;refine callsIn_of_wp_marks hf hb trivial ?_;have Bs:=yW args vs (fn.ntmps-args.length) ha;have:=h g w { tmps:=vs.toArray++Array.replicate (fn.ntmps-vs.toArray.size) undef,defers:=[] } none hs hG (by
  have e:vs.toArray.size=args.length:=by simpa using hl
  rw[e]; exact Bs) (by simp; omega) trivial
 refine wpIn_mono this ?_;rintro e a w' ⟨k1,g',ad,de,ms,k2,k3,k4,k5,k6,k7⟩;simp only[jn]at k2;cases e with
 | normal =>
   show LeavesInM _ _ _ _ _ _ a.defers _ _;rw[k2];exact oJ g ms g' w' _ k3.nodup k3.res k4 k5 k6 (.inl ⟨rfl,k7⟩)
 | ret =>
   show LeavesInM _ _ _ _ _ _ a.defers _ _;rw[k2];exact oJ g ms g' w' _ k3.nodup k3.res k4 k5 k6 (.inl ⟨rfl,k7⟩)
 | panic ch =>
   obtain⟨x,v,rfl,hx,hR⟩:=k7;show LeavesInM _ _ _ _ _ _ a.defers _ _;rw[k2];exact oJ g ms g' w' _ k3.nodup k3.res k4 k5 k6 (.inr ⟨x,v,rfl,hx,hR⟩)
 | exit id=>exact k7.elim
 | goto l=>exact k7.elim
 | outgrown=>exact k7.elim
def Pure (C:ck) (f:FuncId) (args:List AV) (x:AV):Prop:=∀ U R,R (.ret x) U->ae C f args U R
end
end Go.Rip
namespace Go.Rip
open Go.RowKit
section
variable {C:ck} {g:Gh} {U:St} {w:World} {nt:Nat} {ro:Ro} {Q:Ex->Env->St->Prop} {ρ:Env}
def WY (o:Nat) (Q:Ex->Env->St->Prop) (ρ:Env):cM->St->Prop
 | .ret _,ad=>∃ L,ad.loop o=some L/\L.state≠.busy/\(match L.eF with
   | none=>Q .normal ρ (ad.del o)
   | some .ret=>Q .ret ρ (ad.del o)
   | some (.exit id)=>Q (.exit id) ρ (ad.del o)
   | _=>False)
 | .panic x,ad=>Q (.panic x) ρ ad
theorem aY.OU (h:aY g U w) {o:Nat} {L:eY} {p:Place} (ho:U.loop o=some L) (hp:g.place o=some p) (x:Loop) :
 aY g (U.del o) { w with heap:=w.heap.setIfInBounds p.aE (.loop x) }:=by
 obtain⟨p',k1,k2,fn,tmps,defers,k3,_⟩:=h.live o _ (St.kY.1 ho);rw[hp]at k1; cases k1;refine (h.weaken (St.qT U o)).change p.aE k2 (Gh.Le.refl g) rfl rfl ⟨rfl,rfl,rfl,by simp⟩ (λ k hk _=>Array.getElem?_setIfInBounds_ne (Ne.symm hk)) (λ _ _ _=>rfl) (λ _ _=>rfl) (λ q u hu=>?_) (λ es c hr=>?_) (λ b' x' p' h1 h2 e=>?_) (h.rJ (St.kY.1 ho) hp)
 . have:=(h.bT _ _ _ hu).1; simp[World.cell?,k3]at this
 . have:=(h.bL _ _ _ hr).1; rw[k3]at this; cases this
 . simp only[St.del]at h1;split at h1
   . cases h1
   . rename_i ne; exact ne (h.apart _ _ _ _ _ _ h1 (St.kY.1 ho) h2 hp e)
theorem aY.pt (h:aY g U w) {o:Nat} {L L':eY} {p:Place} (ho:U.loop o=some L) (hp:g.place o=some p) {fn:FuncId} {tmps:Array Value} {defers:Nat}
 (hn:tmps.size=L'.nt) (hr:∀ t,av g (L'.ρ t) (tmps.getD t undef)) :
 aY g (U.set o (.loop L')) { w with heap:=w.heap.setIfInBounds p.aE (.loop { state:=L'.state,pending:=L'.eF,fn,tmps,params:=L'.params,assign:=L'.assign,body:=L'.body,defers }) }:=by
 obtain⟨p',k1,k2,Q2,DD,xL,k3,_⟩:=h.live o _ (St.kY.1 ho);rw[hp]at k1; cases k1;have aL:=(jl.1 k3).1;refine h.rewrite (St.kY.1 ho) hp ⟨rfl,rfl,rfl,by simp⟩ (λ k hk _=>Array.getElem?_setIfInBounds_ne (Ne.symm hk)) (λ q=>?_) ?_ ⟨fn,tmps,defers,by simp[aL],hn,hr⟩
 . cases e:g.bT p.aE q with
   | none=>rfl
   | some u=>have:=(h.bT _ _ _ e).1; simp[World.cell?,k3]at this
 . cases e:g.bL p.aE with
   | none=>rfl
   | some u=>have:=(h.bL _ _ _ e).1; rw[k3]at this; cases this
theorem bo.rangeFunc (tag:Nat) {f:Operand} {ps:Array Tmp} {assign body:Code} {ir:FuncId} {first cap:List AV} (hf:ρ.ev C f=.func (.func ir) first cap) (qY:dG C.P ir=true)
 (h:∀ o,U.cV o->ae C ir (first++[.qf o]++cap) (U.new o (.loop ⟨ρ.get,nt,ps,assign,body,.ready,none,tag⟩)) (WY o Q ρ)):bo C nt .fn (.rangeFunc f ps assign body) Q ρ U:=by
 intro g w a fr hs hG hr hn vB;cases fr with
 | some l=>exact vB.elim
 | none =>
 have VG:=qV hG hr f;rw[hf]at VG;simp only[av]at VG;obtain⟨fs,cs,hval,KX,tu⟩:=VG;refine wpIn_rangeFunc λ fn _=>?_;obtain⟨Et,wx⟩:=hs.Tf;have hrE:=hr.mono Et;obtain⟨o,g2,f1,f2,f3,f4⟩:=wx.rv (.loop { state:=.ready,pending:=none,fn:=fn,tmps:=a.tmps,params:=ps,assign,body,defers:=w.heap.size }) 0 0 (.loop ⟨ρ.get,nt,ps,assign,body,.ready,none,tag⟩)
  λ g' hle _ _=>⟨fn,a.tmps,w.heap.size,heap_alloc_new _ _,hn,λ t=>(hrE t).mono hle⟩
 have ra:=Et.trans f2
 obtain⟨Eb,hfn,V5,hng⟩:∃ Eb,C.P.funcs[ir]?=some Eb/\Eb.body.isNone=false/\(Eb.name == "runtime.NumGoroutine")=false:=by
  unfold dG at qY;split at qY
  . rename_i Eb hfn;simp only[bV,Bool.not_eq_true']at qY;exact⟨Eb,hfn,by cases hb:Eb.body<;>simp_all,qY.2⟩
  . cases qY
 refine⟨w.heap.size+1,[{ target:=.collected w.heap.size,args:=#[] }],((w.alloc (.deferred (some []))).alloc (.loop { state:=.ready,pending:=none,fn:=fn,tmps:=a.tmps,params:=ps,assign,body,defers:=w.heap.size })),
  { target:=.fn (.func ir) cs.toArray,args:=fs.toArray++#[.func (.yield (w.heap.size+1)) #[] #[]] },((w.alloc (.deferred (some []))).alloc (.loop { state:=.ready,pending:=none,fn:=fn,tmps:=a.tmps,params:=ps,assign,body,defers:=w.heap.size })),ir,(fs.toArray++#[.func (.yield (w.heap.size+1)) #[] #[]])++cs.toArray,((w.alloc (.deferred (some []))).alloc (.loop { state:=.ready,pending:=none,fn:=fn,tmps:=a.tmps,params:=ps,assign,body,defers:=w.heap.size })),?_,?_,λ _ _=>trivial,?_,λ hd=>by simp[FW,Fence.wide]at hd,?_⟩
 . simp only[Instr.enterLoop,FW,bO,run_newObj,cg,bZ];rw[Array.size_push];rfl
 . simp only[resolve,rangeCall,List.map_toArray,dY,lO];rw[hval];simp only[Deferred.ofValue,cg];rfl
 . simp only[invoke,callFunc,bO,cg,bZ,run_program,hfn,hng,V5,bQ,if_false,dO]
 . have hc:=h o f1 g2 _ (fs++[Value.func (.yield (w.heap.size+1)) #[] #[]]++cs) f4 (hG.mono ra) (((KX.mono ra).append (by
    simp only[aC];exact⟨_,_,rfl,by simp only[av]; exact⟨_,f3,by simp⟩,rfl⟩)).append (tu.mono ra))
   have e:(fs++[Value.func (.yield (w.heap.size+1)) #[] #[]]++cs).toArray=fs.toArray++#[Value.func (.yield (w.heap.size+1)) #[] #[]]++cs.toArray:=by simp
   rw[e]at hc;have Hn:CallsIn (FW none) 0 C.P ir _ _ _:=hc;refine Hn.mono ?_;rintro e w3 hp;have K8:∀ g3,Gh.Le g2 g3->mE false g g3 [w.heap.size]:=λ g3 hl=>⟨λ h=>(by cases h),by simp,λ r hr=>by
    simp only[lN]at hr; subst hr;exact⟨hl.res _ (f2.res _ (by simp)),hs.BO (cN _)⟩⟩
   cases e with
   | returned v =>
     obtain⟨g3,cj,x,h1,h2,h3,L,h4,h5,h6⟩:=hp;obtain⟨p,q1,q2,Q2,DD,xL,q3,q4,q5⟩:=h2.live o _ (St.kY.1 h4);have pV:g3.place o=some ⟨w.heap.size+1,0,0⟩:=h1.place _ _ (by rw[f3]; simp);rw[pV]at q1; cases q1;have wm:(getObj (w.heap.size+1)).run C.P w3=.ok (.loop { state:=L.state,pending:=L.eF,fn:=Q2,tmps:=DD,params:=L.params,assign:=L.assign,body:=L.body,defers:=xL }) w3:=by simp[getObj,Sem.run,q3]
     have Lc:∀ x,(setObj (w.heap.size+1) x).run C.P w3=.ok () { w3 with heap:=w3.heap.setIfInBounds (w.heap.size+1) x }:=λ x=>by simp[setObj,Sem.run,q3]
     have YI:(L.state==LoopState.busy)=false:=by
      cases hL:L.state<;>first
       | rfl
       | exact absurd hL h5
     have uy:(Instr.endLoop (w.heap.size+1)).run C.P w3=.ok L.eF { w3 with heap:=w3.heap.setIfInBounds (w.heap.size+1) (.loop { state:=.exhausted,pending:=L.eF,fn:=Q2,tmps:=DD,params:=L.params,assign:=L.assign,body:=L.body,defers:=xL }) }:=by
      simp only[Instr.endLoop,Instr.getLoop,bO,wm,bZ,cg,YI,bQ,if_false,dO,Lc]
     have We:=h2.OU h4 pV { state:=.exhausted,pending:=L.eF,fn:=Q2,tmps:=DD,params:=L.params,assign:=L.assign,body:=L.body,defers:=xL };have post:∀ ex,D9 g3 Q ρ (cj.del o) ex->oN g nt false a.defers Q ex { a with defers:=[{ target:=.collected w.heap.size,args:=#[] }]++a.defers } _:=λ ex hq =>
      ⟨hn,g3,cj.del o,ρ,[w.heap.size],rfl,K8 g3 h1,ra.trans h1,We,hr.mono (ra.trans h1),hq⟩
     refine⟨L.eF,_,uy,?_⟩;generalize L.eF=eF at h6 post ⊢;cases eF with
     | none=>exact post .normal h6
     | some c =>
       cases c<;>first
        | exact h6.elim
        | exact wpIn_exit (post (.exit _) h6)
        | exact wpIn_ret (post .ret h6)
   | panicked ch =>
     obtain⟨g3,cj,x,v,rfl,h1,h2,h3,h4⟩:=hp;exact⟨hn,g3,cj,ρ,[w.heap.size],rfl,K8 g3 h1,ra.trans h1,h2,hr.mono (ra.trans h1),x,v,rfl,h3,h4⟩
   | outgrown=>exact hp.elim
def uW (ρ:Nat->AV):List Tmp->List AV->Nat->AV
 | t::ts,v::vs=>uW (λ x=>if x=t then v else ρ x) ts vs
 | _,_=>ρ
theorem Ft {ρ:Nat->AV} {tmps:Array Value}:∀ (ps:List Tmp) (args:List AV) (vs:List Value) (ρ:Nat->AV) (tmps:Array Value),(∀ t,av g (ρ t) (tmps.getD t undef))->(∀ t∈ps,t<tmps.size)->aC g args vs ->
 ((ps.zip vs).foldl (λ (tmps:Array Value) (p:Tmp×Value)=>tmps.setIfInBounds p.1 p.2) tmps).size=tmps.size/\∀ t,av g (uW ρ ps args t) (((ps.zip vs).foldl (λ (tmps:Array Value) (p:Tmp×Value)=>tmps.setIfInBounds p.1 p.2) tmps).getD t undef)
 | [],args,vs,ρ,tmps,h,_,_=>by simpa [uW] using h
 | t::ts,[],vs,ρ,tmps,h,_,ha=>by
   simp only[aC]at ha; subst ha;simpa [uW] using h
 | t::ts,x::args,vs,ρ,tmps,h,hl,ha=>by
   simp only[aC]at ha;obtain⟨v,vs,rfl,hx,ha⟩:=ha;simp only[List.zip_cons_cons,List.foldl_cons,uW];have h1:∀ t',av g ((λ y=>if y=t then x else ρ y) t') ((tmps.setIfInBounds t v).getD t' undef):=(fj.put (g:=g) (ρ:=⟨ρ⟩) h (hl t (by simp)) hx)
   obtain⟨h2,h3⟩:=Ft (ρ:=ρ) (tmps:=tmps) ts args vs _ (tmps.setIfInBounds t v) h1 (λ t' qu=>by simpa using hl t' (by simp[qu])) ha;exact⟨by rw[h2]; simp,h3⟩
def W0 (o:Nat) (R:cM->St->Prop):Ex->Env->St->Prop
 | .normal,_,U=>∃ L,U.loop o=some L/\R (.ret (.bool true)) (U.set o (.loop { L with state:=.ready,eF:=none }))
 | .ret,_,U=>∃ L,U.loop o=some L/\R (.ret (.bool false)) (U.set o (.loop { L with state:=.done,eF:=some .ret }))
 | .exit id,_,U=>∃ L,U.loop o=some L/\R (.ret (.bool false)) (U.set o (.loop { L with state:=.done,eF:=some (.exit id) }))
 | .panic _,_,_=>False
def SH (C:ck) (o:Nat) (body:Code) (nt:Nat) (R:cM->St->Prop):Ex->Env->St->Prop
 | .normal,ρ,U=>∃ L,U.loop o=some L/\L.state=.ready/\bo C nt (.round o) body (W0 o R) ρ (U.set o (.loop { L with state:=.busy }))
 | _,_,_=>False
theorem kh.Fj {o:Nat} {args:List AV} {R:cM->St->Prop} {L:eY} (hL:U.loop o=some L) (hargs:args.length=L.params.size) (sb:∀ t∈L.params.toList,t<L.nt)
 (h:bo C L.nt (.round o) L.assign (SH C o L.body L.nt R) ⟨uW L.ρ L.params.toList args⟩ U):kh C o args U R:=by
 intro g w vs x hs hG ha hx;obtain⟨p,k1,k2,fn,tmps,defers,k3,k4,k5⟩:=hs.live o _ (St.kY.1 hL);rw[hx]at k1; cases k1;have wm:(getObj x.aE).run C.P w=.ok (.loop { state:=L.state,pending:=L.eF,fn,tmps,params:=L.params,assign:=L.assign,body:=L.body,defers }) w:=by simp[getObj,Sem.run,k3]
 have hsz:vs.length=L.params.size:=by rw[ha.length,hargs]
 obtain⟨z1,z2⟩:=Ft (g:=g) (ρ:=L.ρ) (tmps:=tmps) L.params.toList args vs L.ρ tmps k5 (λ t ht=>by rw[k4]; exact sb t ht) ha;have YB:(L.params.zip vs.toArray).foldl (λ (tmps:Array Value) (p:Tmp×Value)=>tmps.setIfInBounds p.1 p.2) tmps=(L.params.toList.zip vs).foldl (λ (tmps:Array Value) (p:Tmp×Value)=>tmps.setIfInBounds p.1 p.2) tmps:=by
  rw[<- Array.foldl_toList]; congr 1; simp
 refine⟨fn,(L.params.toList.zip vs).foldl (λ (tmps:Array Value) (p:Tmp×Value)=>tmps.setIfInBounds p.1 p.2) tmps,L.assign,L.body,?_,?_⟩
 . simp only[Instr.yield,Instr.getLoop,bO,wm,bZ,cg,List.size_toArray,hsz,ne_eq,not_true_eq_false,if_false,dO];rw[<- YB]
 . refine roundIn_of_wpIn trivial ?_;have h1:=h g w { tmps:=(L.params.toList.zip vs).foldl (λ (tmps:Array Value) (p:Tmp×Value)=>tmps.setIfInBounds p.1 p.2) tmps,defers:=[] } (some x.aE) hs hG z2 (by rw[<- k4]; exact z1) ⟨x,hx,rfl⟩;have Eg:L.assign.wpIn (Fence.wide.inRound x.aE) 0 C.P _ _ _:=h1;refine wpIn_mono Eg ?_;rintro e a1 w1 ⟨q1,g1,bF,ρ1,ms,q2,q3,q4,q5,q6,q7⟩;cases e with
   | normal =>
     obtain⟨L1,r1,r2,r3⟩:=q7;obtain⟨p,k1,k2,fn,tmps,defers,k3,k4,k5⟩:=q5.live o _ (St.kY.1 r1);rw[q4.place _ _ hx]at k1; cases k1;have wm:(getObj x.aE).run C.P w1=.ok (.loop { state:=L1.state,pending:=L1.eF,fn,tmps,params:=L1.params,assign:=L1.assign,body:=L1.body,defers }) w1:=by simp[getObj,Sem.run,k3]
     have Lc:∀ y,(setObj x.aE y).run C.P w1=.ok () { w1 with heap:=w1.heap.setIfInBounds x.aE y }:=λ y=>by simp[setObj,Sem.run,k3]
     have yB:=q5.pt (L':={ L1 with state:=.busy }) (fn:=fn) (defers:=defers) r1 (q4.place _ _ hx) k4 k5
     refine⟨_,by simp only[Instr.beginRound,Instr.getLoop,bO,wm,bZ,cg,Lc,r2]; rfl,?_⟩;have h2:=r3 g1 _ a1 (some x.aE) yB (hG.mono q4) q6 q1 ⟨x,q4.place _ _ hx,rfl⟩;have h2':L.body.wpIn (Fence.wide.inRound x.aE) 0 C.P _ _ _:=h2;refine wpIn_mono h2' ?_;rintro e a2 w2 ⟨RP,g2,bI,o5,Fc,WR,q3',q4',q5',q6',H5⟩;have hx2:=(q4.trans q4').place _ _ hx;have fin:∀ (L2:eY) (jump:Option Code) (st:LoopState),bI.loop o=some L2->(if jump.isNone then LoopState.ready else .done)=st->R (.ret (.bool jump.isNone)) (bI.set o (.loop { L2 with state:=st,eF:=jump })) ->
      ∃ v w',(Instr.endRound x.aE jump).run C.P w2=.ok v w'/\mM g R (.returned v) w':=λ L2 jump st hl fz hR=>by
      obtain⟨p,k1,k2,fn,tmps,defers,k3,k4,k5⟩:=q5'.live o _ (St.kY.1 hl);rw[hx2]at k1; cases k1;have wm:(getObj x.aE).run C.P w2=.ok (.loop { state:=L2.state,pending:=L2.eF,fn,tmps,params:=L2.params,assign:=L2.assign,body:=L2.body,defers }) w2:=by simp[getObj,Sem.run,k3]
      have Lc:∀ y,(setObj x.aE y).run C.P w2=.ok () { w2 with heap:=w2.heap.setIfInBounds x.aE y }:=λ y=>by simp[setObj,Sem.run,k3]
      have We:=q5'.pt (L':={ L2 with state:=st,eF:=jump }) (fn:=fn) (defers:=defers) hl hx2 k4 k5
      refine⟨.bool jump.isNone,_,by simp only[Instr.endRound,Instr.getLoop,bO,wm,bZ,cg,Lc,fz],g2,_,.bool jump.isNone,q4.trans q4',We,by simp only[av],hR⟩
     cases e with
     | normal=>obtain⟨L2,hl,hR⟩:=H5; exact fin L2 none .ready hl rfl hR
     | ret=>obtain⟨L2,hl,hR⟩:=H5; exact fin L2 (some .ret) .done hl rfl hR
     | exit id=>obtain⟨L2,hl,hR⟩:=H5; exact fin L2 (some (.exit id)) .done hl rfl hR
     | panic ch=>obtain⟨x,v,_,_,hf⟩:=H5; exact hf.elim
     | goto l=>exact H5.elim
     | outgrown=>exact H5.elim
   | panic ch=>obtain⟨x,v,_,_,hf⟩:=q7; exact hf.elim
   | ret=>exact q7.elim
   | exit id=>exact q7.elim
   | goto l=>exact q7.elim
   | outgrown=>exact q7.elim
end
end Go.Rip
namespace Go.Rip
open Go.RowKit
section
variable {C:ck} {g:Gh} {U ad:St} {w:World} {nt:Nat} {nm:Bool} {ro:Ro} {fr:Option Nat} {Q:Ex->Env->St->Prop} {ρ de:Env} {mu:Bool}
theorem ru {l:List Operand} (h:∀ x∈l,ρ.ev C x=de.ev C x):l.map (ρ.ev C)=l.map (de.ev C):=List.map_congr_left h
theorem vr {parts:Array (Nat×Operand)} (h:∀ x∈(parts.toList.map (·.2)).toArray,ρ.ev C x=de.ev C x):kn C ρ parts=kn C de parts:=by
 unfold kn;apply List.map_congr_left;intro p hp;rw[h p.2 (by simp; exact⟨p.1,by simpa using hp⟩)]
theorem L5 (o:Op) (h:∀ x∈o.operands,ρ.ev C x=de.ev C x):gV C mu o ρ U=gV C mu o de U:=by
 cases o with
 | call c =>
   obtain⟨callee,⟨args⟩,⟨Ss⟩⟩:=c;simp only[gV,xK];have ha:args.map (ρ.ev C)=args.map (de.ev C):=ru λ x hx=>h x (by simp only[Op.operands,Call.operands]; rw[Array.mem_append]; exact .inr (by simpa using hx));cases callee with
   | value f =>
     show gi C.P (ρ.ev C f) (args.map (ρ.ev C))=gi C.P (de.ev C f) (args.map (de.ev C));rw[ha,h f (by simp[Op.operands,Call.operands])]
   | invoke r m=>rfl
   | builtin b =>
     have hm:∀ x∈args,ρ.ev C x=de.ev C x:=λ x hx=>h x (by simp only[Op.operands,Call.operands]; rw[Array.mem_append]; exact .inr (by simpa using hx));split<;>simp_all
 | build t parts=>simp only[gV]; rw[vr h]
 | buildSlice t n parts=>simp only[gV]; rw[vr h]
 | makeFunc fn first cap =>
   simp only[gV];rw[ru (l:=first.toList) λ x hx=>h x (by simp[Op.operands]; exact .inl (by simpa using hx)),ru (l:=cap.toList) λ x hx=>h x (by simp[Op.operands]; exact .inr (by simpa using hx))]
 | slice t x lo hi m =>
   cases m with
   | some _=>rfl
   | none =>
     simp only[gV];have h1:=h x (by simp[Op.operands]);have h2:lo.map (ρ.ev C)=lo.map (de.ev C):=by
      cases lo with
      | none=>rfl
      | some y=>simp only[Option.map_some]; rw[h y (by simp[Op.operands])]
     have h3:hi.map (ρ.ev C)=hi.map (de.ev C):=by
      cases hi with
      | none=>rfl
      | some y=>simp only[Option.map_some]; rw[h y (by simp[Op.operands])]
     rw[h1,h2,h3]
 | makeMap t r=>cases r<;>rfl
 | next i b=>cases b<;>simp_all [gV,Op.operands]
 | _=>simp_all [gV,Op.operands]
def dH:AV->List Nat
 | .box b _=>[b]
 | .ms b _ _ _ _=>[b]
 | .mp m=>[m]
 | .it o=>[o]
 | .vec _ (.own τ) _=>[τ]
 | _=>[]
theorem SL {b:Nat} (h:ad.live b=U.live b):ad.box b=U.box b:=by simp only[St.box,h]
theorem Gl {p:AV} (h:∀ b∈dH p,ad.live b=U.live b):km ad p=km U p:=by
 cases p<;>simp only[km]
 rw[SL (h _ (by simp[dH]))]
def quiet:Op->Bool
 | .move _|.assign _|.pick ..|.load ..|.build ..|.buildSlice ..|.fieldAddr ..|.field ..|.indexAddr ..|.index ..|.binOp ..|.unOp ..|.convert ..|.nilCheck _|.lookup ..|.extract ..|.makeInterface ..|.makeFunc ..
 | .slice ..=>true
 | .call c=>match c.callee with
   | .value _=>true
   | .builtin .len|.builtin .min|.builtin .max=>true
   | _=>false
 | _=>false
def mO:Op->Bool
 | .load ..|.lookup ..=>true
 | _=>false
theorem Tq (o:Op) (hq:quiet o=true) (h:mO o=true->∀ x∈o.operands,∀ b∈dH (ρ.ev C x),ad.live b=U.live b):gV C mu o ρ ad=gV C mu o ρ U:=by
 cases o with
 | call c =>
   obtain⟨callee,⟨args⟩,⟨Ss⟩⟩:=c;simp only[gV,xK];cases callee with
   | value f=>rfl
   | invoke r m=>rfl
   | builtin b =>
     cases b<;>simp only[quiet,bQ]at hq
     all_goals (split<;>first
      | rfl
      | (simp only[EY]; done)
      | contradiction
      | simp_all)
 | load t a =>
   simp only[gV,si];rw[Gl (h rfl a (by simp[Op.operands]))]
 | lookup t m k ok =>
   have:=h rfl m (by simp[Op.operands]);simp only[gV,tJ];generalize ρ.ev C m=y at this ⊢;cases y<;>simp_all [dH,St.mp,kS]
 | slice t x lo hi m=>cases m<;>rfl
 | _=>first|rfl|simp[quiet]at hq
theorem ay.wp_mono {K K':AV->St->Prop} {Kp:AV->St->Prop} (hk:∀ v U,K v U->K' v U):∀ (r:ay) {U:St},r.wp C U K Kp->r.wp C U K' Kp
 | .val _,_,h=>hk _ _ h
 | .kI _ _ _,_,h=>hk _ _ h
 | .new _ _ _,_,h=>λ b hb=>hk _ _ (h b hb)
 | .jF _ _,_,h=>λ p hp=>hk _ _ (h p hp)
 | .enter _ _,_,h=>ae.mono h λ r U hr=>by cases r<;>first|exact hk _ _ hr|exact hr
 | .yield _ _,_,h=>kh.mono h λ r U hr=>by cases r<;>first|exact hk _ _ hr|exact hr
 | .panic _,_,h=>h
 | @ay.cond _ _ r,_,h=>⟨h.1,ay.wp_mono hk r h.2⟩
 | .bad,_,h=>h
theorem Ha {x:Operand} {dst:Option Tmp} {v:AV} (h:∀ d,dst=some d->x≠.tmp d):(ρ.dw dst v).ev C x=ρ.ev C x:=by
 cases dst with
 | none=>rfl
 | some d =>
   cases x<;>simp only[Env.dw,Env.put,Env.ev]
   rename_i t;rw[if_neg (λ e=>h d rfl (by rw[e]))]
theorem H0 (ops:Array Oper) (o:Oper) {dst:Option Tmp} {v:AV} (h:∀ d,dst=some d->d∉o.looksAt ops):gV C mu o.op (ρ.dw dst v) U=gV C mu o.op ρ U :=
 L5 o.op λ x hx=>Ha λ d hd Wn=>h d hd (by
  subst Wn;exact List.mem_append_left _ (List.mem_filterMap.2 ⟨.tmp d,by simpa using hx,rfl⟩))
theorem Cd (ops:Array Oper) (o:Oper) {dst:Option Tmp} {v:AV} (h:∀ d,dst=some d->d∉o.looksAt ops):fI ops (ρ.dw dst v) o.guard=fI ops ρ o.guard:=by
 cases dst with
 | none=>rfl
 | some d =>
   have hd:=h d rfl;unfold fI;cases hg:o.guard with
   | none=>rfl
   | some jw =>
     obtain⟨j,want⟩:=jw;simp only;cases hb:(ops[j]?).bind (·.dst) with
     | none=>rfl
     | some t =>
       have cv:t≠d:=λ e=>by
        subst e;apply hd;unfold Oper.looksAt;rw[hg];simp only[hb,Option.toList_some,fN,lN,or_true]
       simp only[Env.dw,Env.put,if_neg cv]
theorem Me {d d':Option Tmp} {v v':AV} (h:∀ t,d=some t->d'≠some t):(ρ.dw d v).dw d' v'=(ρ.dw d' v').dw d v:=by
 cases d<;>cases d'<;>simp only[Env.dw]
 rename_i a b;have cv:b≠a:=λ e=>h a rfl (by rw[e]);simp only[Env.put,Env.mk.injEq];funext t
 by_cases h1:t=b
 . subst h1; rw[if_pos rfl,if_neg cv,if_pos rfl]
 . rw[if_neg h1]
   by_cases h2:t=a
   . rw[if_pos h2,if_pos h2]
   . rw[if_neg h2,if_neg h2,if_neg h1]
def lL (mu:List Nat) (o:Oper):Bool:=match o.dst with|some d=>mu.contains d|none=>false
def jv (C:ck) (mu:List Nat) (ops:Array Oper) (I:St->Prop) (i:Nat) (K:Env->St->Prop) (Kp:AV->St->Prop) (ρ:Env) (U:St):Prop :=
 match ops[i]? with
 | none=>K ρ U
 | some o=>aA (fI ops ρ o.guard) ((gV C (lL mu o) o.op ρ U).wp C U (λ v ad=>I ad/\K (ρ.dw o.dst v) ad) Kp) (K (ρ.dw o.dst (.aQ [])) U)
def RN (o:Oper) (k:Nat):Bool:=o.after.toList.any λ e=>Region.binds .any e&&Nat.beq e.on k
def pO (ops:Array Oper) (i:Nat):Bool:=match ops[i]? with
 | some o=>(List.range ops.size).all λ k=>Nat.beq k i||(RN o k||o.after.toList.any λ e=>Region.binds .any e&&(match ops[e.on]? with|some m=>RN m k|none=>false))
 | none=>false
def Dn (ops:Array Oper) (listed:Array Bool):Prop:=∀ m o,ops[m]?=some o->listed.getD m false=true->∀ e∈o.after,Region.binds .any e=true->listed.getD e.on false=true
theorem Fl {o:Oper} {k:Nat} (h:RN o k=true):∃ e∈o.after,Region.binds .any e=true/\e.on=k:=by
 unfold RN at h;rw[List.any_eq_true]at h;obtain⟨e,he,hb⟩:=h;simp only[bV]at hb;exact⟨e,by simpa using he,hb.1,dF hb.2⟩
theorem DN {ops:Array Oper} {i:Nat} {listed:Array Bool} (hD:Dn ops listed) (hr:i∈Region.ready .any ops listed) (h:pO ops i=true) (k:Nat) (hk:k<ops.size) (cv:k≠i):listed.getD k false=true:=by
 obtain⟨_,o,ho,b0⟩:=mem_ready.1 hr;unfold pO at h;rw[ho]at h;simp only[eH,List.mem_range,gX]at h;rcases h k hk with h|h|h
 . exact absurd (dF h) cv
 . obtain⟨e,he,hb,Af⟩:=Fl h;rw[<- Af]; exact b0 e he hb
 . rw[List.any_eq_true]at h;obtain⟨e,he,hb⟩:=h;rw[bV]at hb;have h1:=b0 e (by simpa using he) hb.1;have h2:=hb.2;split at h2
   . rename_i m hm;obtain⟨e',jV,dR,aaN⟩:=Fl h2;rw[<- aaN]; exact hD _ m hm h1 e' jV dR
   . cases h2
def Di (o:Oper):List Nat:=o.after.toList.filterMap λ e=>if Region.binds .any e=true then some e.on else none
def AM (ops:Array Oper):Nat->List Nat->List Nat
 | 0,l=>l
 | k+1,l=>AM ops k (if l.any (Nat.beq k)=true then (match ops[k]? with|some o=>Di o++l|none=>l) else l)
def G6 (ops:Array Oper) (i:Nat):Bool:=match ops[i]? with
 | some o=>let l:=AM ops ops.size (Di o); (List.range ops.size).all λ k=>Nat.beq k i||l.any (Nat.beq k)
 | none=>false
def lV (ops:Array Oper) (i:Nat):Bool:=pO ops i||G6 ops i
theorem S7 {ops:Array Oper} {i:Nat} (h:pO ops i=true):lV ops i=true:=by unfold lV; rw[h]; rfl
theorem B1 {o:Oper} {k:Nat} (h:k∈Di o):∃ e∈o.after,Region.binds .any e=true/\e.on=k:=by
 unfold Di at h;rw[List.mem_filterMap]at h;obtain⟨e,he,h⟩:=h;split at h
 . rename_i hb; exact⟨e,by simpa using he,hb,by simpa using h⟩
 . cases h
theorem C0 {ops:Array Oper} {listed:Array Bool} (hD:Dn ops listed):∀ (k:Nat) (l:List Nat),(∀ x∈l,listed.getD x false=true)->∀ x∈AM ops k l,listed.getD x false=true
 | 0,l,h,x,hx=>h x hx
 | k+1,l,h,x,hx=>by
   rw[AM]at hx;refine C0 hD k _ (λ y hy=>?_) x hx;split at hy
   . rename_i hk;rw[List.any_eq_true]at hk;obtain⟨z,hz,Li⟩:=hk;obtain rfl:=dF Li;split at hy
     . rename_i o ho;rw[fN]at hy;rcases hy with hy|hy
       . obtain⟨e,he,hb,rfl⟩:=B1 hy;exact hD _ o ho (h _ hz) e he hb
       . exact h y hy
     . exact h y hy
   . exact h y hy
theorem Ak {ops:Array Oper} {i:Nat} {listed:Array Bool} (hD:Dn ops listed) (hr:i∈Region.ready .any ops listed) (h:lV ops i=true) (k:Nat) (hk:k<ops.size) (cv:k≠i):listed.getD k false=true:=by
 unfold lV at h;rw[gX]at h;rcases h with h|h
 . exact DN hD hr h k hk cv
 obtain⟨_,o,ho,b0⟩:=mem_ready.1 hr;unfold G6 at h;rw[ho]at h;simp only[eH,List.mem_range,gX]at h;rcases h k hk with h|h
 . exact absurd (dF h) cv
 . rw[List.any_eq_true]at h;obtain⟨z,hz,Li⟩:=h;obtain rfl:=dF Li;refine C0 hD ops.size _ (λ y hy=>?_) _ hz;obtain⟨e,he,hb,rfl⟩:=B1 hy;exact b0 e he hb
theorem Dn.set {ops:Array Oper} {listed:Array Bool} (hD:Dn ops listed) {i:Nat} (hr:i∈Region.ready .any ops listed):Dn ops (listed.setIfInBounds i true):=by
 intro m o ho hl e he hb;obtain⟨_,oi,Rs,b0⟩:=mem_ready.1 hr
 by_cases Ch:i=m
 . subst Ch;rw[Rs]at ho; cases ho;exact getD_set_true (b0 e he hb)
 . rw[getD_set_ne false Ch]at hl;exact getD_set_true (hD m o ho hl e he hb)
theorem Dn.none (ops:Array Oper) (n:Nat):Dn ops (Array.replicate n false):=by
 intro m o ho hl;rw[Array.getD_eq_getD_getElem?,Array.getElem?_replicate]at hl;split at hl<;>simp at hl
def Ix (ops:Array Oper) (I:St->Prop) (i:Nat) (U:St):Prop:=lV ops i=true\/I U
def ki (C:ck) (mu:List Nat) (ops:Array Oper) (I:St->Prop) (K:Env->St->Prop) (Kp:AV->St->Prop):Nat->Array Bool->Env->St->Prop
 | 0,listed,ρ,U=>Region.ready .any ops listed=[]/\K ρ U
 | n+1,listed,ρ,U=>(Region.ready .any ops listed=[]->K ρ U)/\∀ i∈Region.ready .any ops listed,jv C mu ops (Ix ops I i) i (ki C mu ops I K Kp n (listed.setIfInBounds i true)) Kp ρ U
theorem Iq {mu:List Nat} {ops:Array Oper} {I:St->Prop} (cw:jt nt ops=true) (g0:Gh):∀ (fuel t:Nat) (listed:Array Bool) (g:Gh) (U:St) (w:World) (ρ:Env) (a:Act) (ds:List Deferred),Gh.Le g0 g->aY g U w->fQ C g->fj g ρ a.tmps->a.tmps.size=nt->a.defers=ds ->
 ki C mu ops I (KQ Q) (vp Q) fuel listed ρ U->wpOpsIn (FW fr) 0 C.P ops (oN g0 nt nm ds Q) (Region.linearise.go .any ops fuel t listed []) a w:=by
 intro fuel
 induction fuel with
 | zero =>
   intro t listed g U w ρ a ds h0 hs hG hr hn hd h;simp only[Region.linearise.go,List.reverse_nil,wpOpsIn];exact⟨hn,g,U,ρ,[],by simpa using hd,jQ _ _ _,h0,hs,hr,h.2⟩
 | succ fuel ih =>
   intro t listed g U w ρ a ds h0 hs hG hr hn hd h;obtain⟨h1,h2⟩:=h;simp only[Region.linearise.go];change wpOpsIn (FW fr) 0 C.P ops (oN g0 nt nm ds Q) (match (Region.ready .any ops listed)[t%(Region.ready .any ops listed).length]? with
    | some i=>Region.linearise.go .any ops fuel (t / (Region.ready .any ops listed).length) (listed.setIfInBounds i true) [i]
    | none=>[].reverse) a w
   cases hi:(Region.ready .any ops listed)[t%(Region.ready .any ops listed).length]? with
   | none =>
     have Bt:Region.ready .any ops listed=[]:=by
      cases hr:Region.ready .any ops listed with
      | nil=>rfl
      | cons x xs =>
        rw[hr]at hi;have aL:t%(x::xs).length<(x::xs).length:=Nat.mod_lt _ (by simp);simp at hi;simp at aL;omega
     simp only[List.reverse_nil,wpOpsIn];exact⟨hn,g,U,ρ,[],by simpa using hd,jQ _ _ _,h0,hs,hr,h1 Bt⟩
   | some i =>
     dsimp only;rw[linearise_go_acc,List.reverse_singleton,List.singleton_append];simp only[wpOpsIn];have fz:=h2 i (gA hi);unfold jv at fz;cases ho:ops[i]? with
     | none =>
       rw[ho]at fz;exact ih _ _ g U w ρ a ds h0 hs hG hr hn hd fz
     | some o =>
       rw[ho]at fz;dsimp only at fz ⊢;have kU:o∈ops.toList:=gA (l:=ops.toList) (i:=i) (a:=o) (by rw[jm]; exact ho);have EB:zh nt o=true:=by
        unfold jt at cw;rw[eH]at cw;exact cw o kU
       have Pk:∀ d,o.dst=some d->d<a.tmps.size:=λ d vy=>by
        simp only[zh,vy,bV,dJ]at EB;rw[hn]; exact EB.1
       have go:∀ g' ad w' x v,Gh.Le g g'->aY g' ad w'->av g' x v->ki C mu ops I (KQ Q) (vp Q) fuel (listed.setIfInBounds i true) (ρ.dw o.dst x) ad->wpOpsIn (FW fr) 0 C.P ops (oN g0 nt nm ds Q) (Region.linearise.go .any ops fuel (t / (Region.ready .any ops listed).length) (listed.setIfInBounds i true) []) (a.put o.dst v) w':=λ g' ad w' x v hle dK hx hk =>
        ih _ _ g' ad w' (ρ.dw o.dst x) (a.put o.dst v) ds (h0.trans hle) dK (hG.mono hle) ((hr.mono hle).dw Pk hx) (by rw[(mi a o.dst v).2]; exact hn) (by rw[(mi a o.dst v).1]; exact hd) hk
       cases K2:fI ops ρ o.guard<;>rw[K2]at fz<;>simp only[aA]at fz
       rename_i b;have hw:=yq hr K2;cases b
       . rw[if_neg (by rw[hw]; simp)];exact⟨λ _ _=>trivial,go g U w (.aQ []) undef (Gh.Le.refl g) hs sy (fz.2 rfl)⟩
       . rw[if_pos hw];refine nW EB hs hG hr hn (fz.1 rfl) (λ g' ad w' x v hle dK hx hk=>go g' ad w' x v hle dK hx hk.2) ?_ (ds:=ds);intro g' ad w' x v hle dK hx hk;exact⟨hn,g',ad,ρ,[],by simpa using hd,jQ _ _ _,h0.trans hle,dK,hr.mono hle,x,v,rfl,hx,hk ρ⟩
theorem bo.xl {id:Nat} {ops:Array Oper} (mu:List Nat) (I:St->Prop) (hm:C.P.follows .mixedOrders=true) (cw:jt nt ops=true) (h:ki C mu ops I (KQ Q) (vp Q) ops.size (Array.replicate ops.size false) ρ U):bo C nt ro (.region id ops true) Q ρ U:=by
 intro g w a fr h1 h2 h3 h4 vB;refine wpIn_region_draw λ t=>?_;simp only[Region.schedule,hm,Bool.true_or,if_true,Region.linearise];have hs:=h1.grow (jd w);exact Iq cw g ops.size t _ g U _ ρ a a.defers (Gh.Le.refl g) hs h2 h3 h4 rfl h
def ay.yv (C:ck):ay->AV->Prop
 | .val u,v=>u=v
 | @ay.cond p _ r,v=>p/\r.yv C v
 | .enter f args,v=>Pure C f args v
 | _,_=>False
theorem ay.Kf {K:AV->St->Prop} {Kp:AV->St->Prop}:∀ (r:ay) {v:AV},r.yv C v->K v U->r.wp C U K Kp
 | .val _,_,h,hk=>by simp only[ay.yv]at h; subst h; exact hk
 | @ay.cond _ _ r,_,h,hk=>⟨h.1,ay.Kf r h.2 hk⟩
 | .enter _ _,_,h,hk=>h U _ hk
 | .kI _ _ _,_,h,_=>h.elim
 | .new _ _ _,_,h,_=>h.elim
 | .jF _ _,_,h,_=>h.elim
 | .yield _ _,_,h,_=>h.elim
 | .panic _,_,h,_=>h.elim
 | .bad,_,h,_=>h.elim
def cE (B:List Nat) (az U:St):Prop:=∀ b∈B,U.live b=az.live b
def Still (C:ck) (mu:List Nat) (ops:Array Oper) (B:List Nat) (az:St) (o:Oper) (ρ:Env) (v:AV):Prop :=
 (fI ops ρ o.guard=.bool true/\quiet o.op=true/\(mO o.op=true->∀ x∈o.op.operands.toList,∀ b∈dH (ρ.ev C x),b∈B)/\(gV C (lL mu o) o.op ρ az).yv C v)\/(fI ops ρ o.guard=.bool false/\v=.aQ [])
theorem Still.put {mu:List Nat} {ops:Array Oper} {B:List Nat} {az:St} {o:Oper} {v:AV} (h:Still C mu ops B az o ρ v) {dst:Option Tmp} {u:AV} (hd:∀ d,dst=some d->d∉o.looksAt ops):Still C mu ops B az o (ρ.dw dst u) v:=by
 unfold Still at h ⊢;rw[Cd ops o hd,H0 ops o hd];rcases h with ⟨h1,h2,h3,h4⟩|h
 . refine .inl ⟨h1,h2,λ EH x hx b hb=>h3 EH x hx b ?_,h4⟩;rw[Ha λ d vy Wn=>hd d vy (by
    subst Wn;exact List.mem_append_left _ (List.mem_filterMap.2 ⟨.tmp d,hx,rfl⟩))]at hb
   exact hb
 . exact .inr h
theorem Still.step {mu:List Nat} {ops:Array Oper} {B:List Nat} {az:St} {o:Oper} {v:AV} {i:Nat} {K:Env->St->Prop} {Kp:AV->St->Prop} (hi:ops[i]?=some o) (h:Still C mu ops B az o ρ v) (hI:cE B az U) {I':St->Prop} (zX:I' U) (hk:K (ρ.dw o.dst v) U) :
 jv C mu ops I' i K Kp ρ U:=by
 unfold jv;rw[hi];dsimp only;rcases h with ⟨h1,h2,h3,h4⟩|⟨h1,rfl⟩
 . rw[h1];refine⟨λ _=>?_,λ h=>by cases h⟩;have e:=Tq (C:=C) (ρ:=ρ) (mu:=lL mu o) (ad:=U) (U:=az) o.op h2 (λ EH x hx b hb=>hI b (h3 EH x (by simpa using hx) b hb));rw[e];exact ay.Kf _ h4 ⟨zX,hk⟩
 . rw[h1];exact⟨λ h=>(by cases h),λ _=>hk⟩
theorem AL {mu:List Nat} {ops:Array Oper} {I:St->Prop} {i:Nat} {K K':Env->St->Prop} {Kp:AV->St->Prop} (hI:I U) (hk:∀ ρ U,I U->K ρ U->K' ρ U) (h:jv C mu ops I i K Kp ρ U):jv C mu ops I i K' Kp ρ U:=by
 unfold jv at h ⊢;split
 . rename_i ho; rw[ho]at h; exact hk _ _ hI h
 . rename_i o ho;rw[ho]at h;dsimp only at h;cases hg:fI ops ρ o.guard<;>rw[hg]at h<;>simp only[aA]at h ⊢
   exact⟨λ e=>ay.wp_mono (λ v U hv=>⟨hv.1,hk _ _ hv.1 hv.2⟩) _ (h.1 e),λ e=>hk _ _ hI (h.2 e)⟩
theorem zI {mu:List Nat} {ops:Array Oper} {B:List Nat} {az:St} {K:Env->St->Prop} {Kp:AV->St->Prop} {i:Nat} {oi:Oper} {v:AV} (hi:ops[i]?=some oi) :
 ∀ (fuel:Nat) (listed:Array Bool) (ρ:Env) (U:St),
  (∀ j oj,ops[j]?=some oj->j≠i->listed.getD j true=false->(∀ e∈oj.after,Region.binds .any e=true->e.on≠i)->oi.apart ops oj=true) ->
  i∈Region.ready .any ops listed->Dn ops listed->Still C mu ops B az oi ρ v->cE B az U ->
  ki C mu ops (cE B az) K Kp fuel (listed.setIfInBounds i true) (ρ.dw oi.dst v) U->ki C mu ops (cE B az) K Kp (fuel+1) listed ρ U:=by
 intro fuel
 induction fuel with
 | zero =>
   intro listed ρ U _ hr hD hy hI H;refine⟨λ h=>(by rw[h]at hr; cases hr),λ j hj=>?_⟩
   by_cases wq:j=i
   . subst wq; exact hy.step hi hI (.inr hI) H
   . have:=ready_mono hj wq;rw[H.1]at this;cases this
 | succ fuel ih =>
   intro listed ρ U Ds hr hD hy hI H;refine⟨λ h=>(by rw[h]at hr; cases hr),λ j hj=>?_⟩
   by_cases wq:j=i
   . subst wq; exact hy.step hi hI (.inr hI) H
   . have h1:=H.2 j (ready_mono hj wq);obtain⟨VQ,oj,ma,b0⟩:=mem_ready.1 hj;have Pq:∀ e∈oj.after,Region.binds .any e=true->e.on≠i:=λ e he hb heq=>by
      have h1:=b0 e he hb;have h0:=(mem_ready.1 hr).1;rw[heq]at h1;rcases gI i listed.size with h'|h'
      . simp[h']at h0 h1; rw[h0]at h1; cases h1
      . simp[uY h']at h1
     obtain⟨a1,a2,a3⟩:=Oper.apart_spec (Ds j oj ma wq VQ Pq);have VJ:∀ k ok,ops[k]?=some ok->k≠i->(listed.setIfInBounds j true).getD k true=false ->
      (∀ e∈ok.after,Region.binds .any e=true->e.on≠i)->oi.apart ops ok=true:=λ k ok hk Hs Z9 fL=>by
      refine Ds k ok hk Hs ?_ fL
      by_cases ZR:j=k
      . subst ZR; exact VQ
      . rw[getD_set_ne true ZR]at Z9; exact Z9
     have La:¬ lV ops j=true:=λ YG=>by
      have h1:=Ak hD hj YG i (jl.1 hi).1 (Ne.symm wq);have h0:=(mem_ready.1 hr).1;rcases gI i listed.size with h'|h'
      . simp[h']at h0 h1; rw[h0]at h1; cases h1
      . simp[uY h']at h1
     have next:∀ (u:AV) (ad:St),cE B az ad->ki C mu ops (cE B az) K Kp fuel ((listed.setIfInBounds i true).setIfInBounds j true) ((ρ.dw oi.dst v).dw oj.dst u) ad ->
      ki C mu ops (cE B az) K Kp (fuel+1) (listed.setIfInBounds j true) (ρ.dw oj.dst u) ad:=λ u ad zX hA=>by
      refine ih (listed.setIfInBounds j true) (ρ.dw oj.dst u) ad VJ (ready_mono hr (Ne.symm wq)) (hD.set hj) (hy.put a3) zX ?_;rw[Array.setIfInBounds_comm _ _ wq,<- Me (d:=oi.dst) (d':=oj.dst) (λ t ht=>a2 t ht)];exact hA
     unfold jv at h1 ⊢;rw[ma]at h1 ⊢;dsimp only at h1 ⊢;rw[Cd ops oj a1,H0 ops oj a1]at h1;cases hg:fI ops ρ oj.guard<;>rw[hg]at h1<;>simp only[aA]at h1 ⊢
     exact⟨λ e=>ay.wp_mono (λ u ad hu=>⟨hu.1,next u ad (hu.1.resolve_left La) hu.2⟩) _ (h1.1 e),λ e=>next _ U hI (h1.2 e)⟩
def fT (ops:Array Oper):List (Bool×Nat)->Array Bool->Bool
 | [],listed=>(Region.ready .any ops listed).isEmpty
 | (true,i)::r,listed=>(Region.ready .any ops listed).contains i&&Region.free .any ops listed i&&fT ops r (listed.setIfInBounds i true)
 | (false,i)::r,listed=>(Region.ready .any ops listed==[i])&&fT ops r (listed.setIfInBounds i true)
def jH (C:ck) (mu:List Nat) (ops:Array Oper) (B:List Nat) (az:St) (K:Env->St->Prop) (Kp:AV->St->Prop):List (Bool×Nat)->Env->St->Prop
 | [],ρ,U=>K ρ U
 | (true,i)::r,ρ,U=>∃ o v,ops[i]?=some o/\Still C mu ops B az o ρ v/\jH C mu ops B az K Kp r (ρ.dw o.dst v) U
 | (false,i)::r,ρ,U=>jv C mu ops (Ix ops (cE B az) i) i (jH C mu ops B az K Kp r) Kp ρ U
theorem PT {ops:Array Oper} {i:Nat} {listed:Array Bool} (hD:Dn ops listed) (hi:i∈Region.ready .any ops listed) (ha:lV ops i=true):∀ {r:List (Bool×Nat)},fT ops r (listed.setIfInBounds i true)=true->r=[]
 | [],_=>rfl
 | (b,k)::r,h=>by
   exfalso;have hk:k∈Region.ready .any ops (listed.setIfInBounds i true):=by
    cases b with
    | true=>simp only[fT,bV]at h; simpa using h.1.1
    | false=>simp only[fT,bV,beq_iff_eq]at h; rw[h.1]; simp
   obtain⟨h0,ok,cw,_⟩:=mem_ready.1 hk;have Eo:=(mem_ready.1 hi).1;have cv:k≠i:=λ e=>by
    subst e;have aL:k<listed.size:=by
     rcases gI k listed.size with h|h
     . exact h
     . simp[uY h]at Eo
    simp[aL]at h0
   have h1:=Ak hD hi ha k (jl.1 cw).1 cv;rw[getD_set_ne true (Ne.symm cv)]at h0;rcases gI k listed.size with h'|h'
   . simp[h']at h0 h1; rw[h0]at h1; cases h1
   . simp[uY h']at h1
theorem p4 {mu:List Nat} {ops:Array Oper} {B:List Nat} {az:St} {K:Env->St->Prop} {Kp:AV->St->Prop}:∀ (cI:List (Bool×Nat)) (listed:Array Bool) (ρ:Env) (U:St),fT ops cI listed=true->Dn ops listed->(cI=[]\/cE B az U)->jH C mu ops B az K Kp cI ρ U ->
 ki C mu ops (cE B az) K Kp cI.length listed ρ U
 | [],listed,ρ,U,hp,hD,hI,h=>⟨by simpa [fT] using hp,h⟩
 | (true,i)::r,listed,ρ,U,hp,hD,hI,h=>by
   have hI:=hI.resolve_left (by simp);simp only[fT,bV]at hp;obtain⟨o,v,ho,fz,hr⟩:=h;exact zI ho r.length listed ρ U (Region.free_spec ho hp.1.2) (by simpa using hp.1.1) hD fz hI (p4 r _ _ U hp.2 (hD.set (by simpa using hp.1.1)) (.inr hI) hr)
 | (false,i)::r,listed,ρ,U,hp,hD,hI,h=>by
   have hS:=hI.resolve_left (by simp);simp only[fT,bV,beq_iff_eq]at hp;refine⟨λ h0=>(by rw[hp.1]at h0; cases h0),λ j hj=>?_⟩;have Cg:=hj;rw[hp.1,lN]at hj;subst hj;exact AL (.inr hS) (λ de ad zX hr=>p4 r _ de ad hp.2 (hD.set Cg) (zX.elim (λ ha=>.inl (PT hD Cg ha hp.2)) .inr) hr) h
theorem bo.qG {id:Nat} {ops:Array Oper} (mu:List Nat) (B:List Nat) (cI:List (Bool×Nat)) (hm:C.P.follows .mixedOrders=true) (cw:jt nt ops=true) (hp:(fT ops cI (Array.replicate ops.size false)&&(cI.length==ops.size))=true)
 (h:jH C mu ops B U (KQ Q) (vp Q) cI ρ U):bo C nt ro (.region id ops true) Q ρ U:=by
 simp only[bV,beq_iff_eq]at hp;refine bo.xl mu (cE B U) hm cw ?_;have:=p4 cI _ ρ U hp.1 (Dn.none _ _) (.inr λ _ _=>rfl) h;rw[hp.2]at this;exact this
theorem ay.zE {K:AV->St->Prop} {Kp vo:AV->St->Prop} (hp:∀ v U,Kp v U->vo v U):∀ (r:ay) {U:St},r.wp C U K Kp->r.wp C U K vo
 | .val _,_,h=>h
 | .kI _ _ _,_,h=>h
 | .new _ _ _,_,h=>h
 | .jF _ _,_,h=>h
 | .enter _ _,_,h=>ae.mono h λ r U hr=>by cases r<;>first|exact hr|exact hp _ _ hr
 | .yield _ _,_,h=>kh.mono h λ r U hr=>by cases r<;>first|exact hr|exact hp _ _ hr
 | .panic _,_,h=>hp _ _ h
 | @ay.cond _ _ r,_,h=>⟨h.1,ay.zE hp r h.2⟩
 | .bad,_,h=>h
theorem gO {mu:List Nat} {ops:Array Oper} {B:List Nat} {az:St} {K K':Env->St->Prop} {Kp vo:AV->St->Prop} (hk:∀ ρ U,K ρ U->K' ρ U) (hp:∀ v U,Kp v U->vo v U):∀ (l:List (Bool×Nat)) {ρ:Env} {U:St},jH C mu ops B az K Kp l ρ U->jH C mu ops B az K' vo l ρ U
 | [],_,_,h=>hk _ _ h
 | (true,i)::r,ρ,U,h=>by
   obtain⟨o,v,h1,h2,h3⟩:=h;exact⟨o,v,h1,h2,gO hk hp r h3⟩
 | (false,i)::r,ρ,U,h=>by
   simp only[jH,jv]at h ⊢;split
   . rename_i ho; rw[ho]at h; exact gO hk hp r h
   . rename_i o ho;rw[ho]at h;dsimp only at h;cases hg:fI ops ρ o.guard<;>rw[hg]at h<;>simp only[aA]at h ⊢
     exact⟨λ e=>ay.wp_mono (λ v U hv=>⟨hv.1,gO hk hp r hv.2⟩) _ (ay.zE hp _ (h.1 e)),λ e=>gO hk hp r (h.2 e)⟩
end
end Go.Rip
namespace Go.Rip
open Go.RowKit
def oF (kk:IntKind) (a:Int) (v:AV) (kv:List AV×List AV):List AV×List AV:=fp (.int kk a) v kv.1 kv.2
theorem se (kk:IntKind) (a b:Int):gM (.int kk a) (.int kk b)=decide (a<b):=by simp[gM]
def vN (kk:IntKind) (kv:List AV×List AV):Prop:=kv.1.length=kv.2.length/\∀ y∈kv.1,∃ n,y=.int kk n
theorem ER (k v:AV):∀ ks vs:List AV,ks.length=vs.length->(fp k v ks vs).1.length=(fp k v ks vs).2.length
 | [],[],_=>rfl
 | y::ys,w::ws,h=>by
   simp only[fp];split
   . simpa using h
   . simpa using ER k v ys ws (by simpa using h)
 | [],_::_,h=>by simp at h
 | _::_,[],h=>by simp at h
theorem HI {kk:IntKind} {a:Int} {v:AV} {kv:List AV×List AV} (h:vN kk kv):vN kk (oF kk a v kv) :=
 ⟨ER _ _ _ _ h.1,λ y hy=>by
   rcases uD _ _ y hy with rfl|hy
   . exact⟨a,rfl⟩
   . exact h.2 y hy⟩
theorem Cu {kk:IntKind} {a b:Int} {v w:AV} (Hi:a≠b):∀ ks vs:List AV,ks.length=vs.length->(∀ y∈ks,∃ n,y=.int kk n) ->
 fp (.int kk a) v (fp (.int kk b) w ks vs).1 (fp (.int kk b) w ks vs).2=fp (.int kk b) w (fp (.int kk a) v ks vs).1 (fp (.int kk a) v ks vs).2
 | [],[],_,_=>by
   simp only[fp,se]
   by_cases h:a<b
   . have:¬ b<a:=by omega
     simp[h,this]
   . have:b<a:=by omega
     simp[h,this]
 | y::ys,x::xs,h,hy=>by
   obtain⟨n,rfl⟩:=hy _ (List.mem_cons_self ..);have ih:=Cu (v:=v) (w:=w) Hi ys xs (by simpa using h) (λ y hm=>hy y (by simp[hm]));simp only[fp,se]
   by_cases h1:a<n<;>by_cases h2:b<n<;>by_cases h3:a<b
   all_goals (have h4:b<a\/¬ b<a:=by omega)
   all_goals (rcases h4 with h4|h4<;>simp only[h1,h2,h3,h4,dq,dz,if_true,if_false,bQ,fp,se]<;>first|omega|(simp only[ih]; done)|rfl|(simp[fp,se,h1,h2,h3,h4,ih]; done))
 | [],_::_,h,_=>by simp at h
 | _::_,[],h,_=>by simp at h
theorem Ll {kk:IntKind} {a b:Int} {v w:AV} (Hi:a≠b) {kv:List AV×List AV} (h:vN kk kv):oF kk a v (oF kk b w kv)=oF kk b w (oF kk a v kv):=Cu Hi kv.1 kv.2 h.1 h.2
structure sG where
 i:Nat
 key:Int
 val:AV
def nE (kk:IntKind) (l:List sG) (kv:List AV×List AV):List AV×List AV:=l.foldl (λ kv x=>oF kk x.key x.val kv) kv
theorem wD {kk:IntKind}:∀ (pk:List sG) (x:sG) (pn:List sG) {kv:List AV×List AV},vN kk kv->(∀ y∈pk,y.key≠x.key)->nE kk (pk++x::pn) kv=nE kk (pk++pn) (oF kk x.key x.val kv)
 | [],x,pn,_,_,_=>rfl
 | y::pk,x,pn,kv,h,hk=>by
   show nE kk (pk++x::pn) (oF kk y.key y.val kv)=nE kk (pk++pn) (oF kk y.key y.val (oF kk x.key x.val kv));rw[wD pk x pn (HI h) (λ z hz=>hk z (by simp[hz])),Ll (hk y (by simp)).symm h]
theorem Ea {kk:IntKind} {a:Int}:∀ (ks:List AV) (i:Nat),(∀ y∈ks,∃ n,y=.int kk n/\n≠a)->j0 .i (.int kk a) ks i=some none
 | [],_,_=>rfl
 | y::ys,i,h=>by
   obtain⟨n,rfl,hn⟩:=h _ (List.mem_cons_self ..);have cv:(a==n)=false:=by simpa using Ne.symm hn
   simp only[j0,fE,if_true,cv,bQ,if_false];exact Ea ys (i+1) λ y hy=>h y (by simp[hy])
theorem set_set (U:St) (b:Nat) (x y:Live):(U.set b x).set b y=U.set b y:=by
 simp only[St.set,St.mk.injEq,and_true]; funext q; split<;>rfl
theorem WC (U:St) (b:Nat) (ks vs:List AV):(U.set b (.mp ks vs)).mp b=some (ks,vs):=by simp[St.mp,St.set]
section
variable {C:ck} {mu:List Nat} {ops:Array Oper} {B:List Nat} {az:St} {K:Env->St->Prop} {Kp:AV->St->Prop}
def X2 (C:ck) (ops:Array Oper) (ρ:Env) (t:TypeId) (m:Nat) (kk:IntKind) (listed:Array Bool) (x:sG):Prop:=∃ o v,ops[x.i]?=some o/\o.op=.insert t (.tmp m) (.const (.int kk x.key)) v/\o.dst=none/\o.guard=none/\ρ.ev C v=x.val /\
 ∀ e∈o.after,Region.binds .any e=true->listed.getD e.on false=true
def TK (ops:Array Oper) (listed:Array Bool) (l:List sG):Prop:=∀ j o,ops[j]?=some o->listed.getD j true=false->(∃ x∈l,x.i=j)\/∀ x∈l,∃ e∈o.after,Region.binds .any e=true/\e.on=x.i
theorem SX {t:TypeId} {m:Nat} {kk:IntKind} {e:TypeId} (ht:oK C.P t=some (.i,e)) {id:Nat} {ρ:Env} (hm:ρ.get m=.mp id) (hB:id∉B) (mm:Nat):∀ (n:Nat) (l:List sG) (listed:Array Bool) (U:St) (kv:List AV×List AV),l.length=n ->
 (∀ x∈l,listed.getD x.i true=false)->TK ops listed l->l.Pairwise (λ x y=>x.i≠y.i/\x.key≠y.key)->(∀ x∈l,X2 C ops ρ t m kk listed x)->cE B az U->vN kk kv ->
 (∀ x∈l,.int kk x.key∉kv.1)->(∀ ky:Array Bool,ky.size=listed.size->(∀ j,ky.getD j true=false↔listed.getD j true=false/\¬ ∃ x∈l,x.i=j)->ki C mu ops (cE B az) K Kp mm ky ρ (U.set id (.mp (nE kk l kv).1 (nE kk l kv).2))) ->
 ki C mu ops (cE B az) K Kp (n+mm) listed ρ (U.set id (.mp kv.1 kv.2)):=by
 intro n
 induction n with
 | zero =>
   intro l listed U kv hl Ac tq hp cw hI vC fL hK;obtain rfl:l=[]:=List.eq_nil_of_length_eq_zero hl;rw[cq];exact hK listed rfl λ j=>by simp
 | succ n ih =>
   intro l listed U kv hl Ac tq hp cw hI vC fL hK;have EG:∀ x∈l,x.i∈Region.ready .any ops listed:=λ x hx=>by
    obtain⟨o,v,h1,_,_,_,_,h6⟩:=cw x hx;exact mem_ready.2 ⟨Ac x hx,o,h1,h6⟩
   rw[show n+1+mm=(n+mm)+1 by omega];refine⟨λ h=>?_,λ j hj=>?_⟩
   . obtain⟨x,l',rfl⟩:∃ x l',l=x::l':=by cases l with|nil=>simp at hl|cons x l'=>exact⟨x,l',rfl⟩
     have:=EG x (by simp);rw[h]at this; cases this
   . obtain⟨x,hx,rfl⟩:∃ x∈l,x.i=j:=by
      obtain⟨h0,oj,ma,b0⟩:=mem_ready.1 hj;rcases tq j oj ma h0 with h|h
      . exact h
      . exfalso;obtain⟨x,l',rfl⟩:∃ x l',l=x::l':=by cases l with|nil=>simp at hl|cons x l'=>exact⟨x,l',rfl⟩
        obtain⟨ed,he,hb,Af⟩:=h x (by simp);have k1:=b0 ed he hb;rw[Af]at k1;have k2:=Ac x (by simp);rcases gI x.i listed.size with h'|h'
        . simp[h']at k1 k2; rw[k2]at k1; cases k1
        . simp[uY h']at k1
     obtain⟨o,v,h1,h2,h3,h4,h5,h6⟩:=cw x hx;obtain⟨pk,pn,rfl⟩:=List.append_of_mem hx;have hpa:=hp;rw[List.pairwise_append]at hp;obtain⟨p1,p2,p3⟩:=hp;rw[List.pairwise_cons]at p2;have I8:j0 .i (.int kk x.key) kv.1 0=some none:=Ea _ _ λ y hy=>by
      obtain⟨n,rfl⟩:=vC.2 y hy;exact⟨n,rfl,λ e=>fL x hx (by rw[<- e]; exact hy)⟩
     unfold jv;rw[h1];dsimp only;rw[h4,h2,h3];refine⟨λ _=>?_,λ h=>by cases h⟩;have hop:gV C (lL mu o) (.insert t (.tmp m) (.const (.int kk x.key)) v) ρ (U.set id (.mp kv.1 kv.2))=.kI (.aQ []) id (.mp (oF kk x.key x.val kv).1 (oF kk x.key x.val kv).2):=by
      show oL C.P t (ρ.ev C (.tmp m)) (ρ.ev C (.const (.int kk x.key))) (ρ.ev C v) _=_;rw[h5,show ρ.ev C (.tmp m)=.mp id from hm,show ρ.ev C (.const (.int kk x.key))=.int kk x.key from rfl];simp only[oL,ht,WC,I8,oI,oF]
     rw[hop];refine⟨.inr λ b hb=>?_,?_⟩
     . have cv:b≠id:=λ e=>hB (e▸hb);rw[set_set];simp only[St.set,if_neg cv];exact hI b hb
     . show ki C mu ops (cE B az) K Kp (n+mm) (listed.setIfInBounds x.i true) ρ _;rw[set_set];have aL:x.i<listed.size:=by
        have h0:=Ac x hx;rcases gI x.i listed.size with h|h
        . exact h
        . simp[uY h]at h0
       have Rz:(listed.setIfInBounds x.i true).getD x.i true=true:=by simp[aL]
       have Bv:∀ y∈pk++pn,y∈pk++x::pn:=λ y hy=>by
        simp only[fN,fe]at hy ⊢;rcases hy with hy|hy
        . exact .inl hy
        . exact .inr (.inr hy)
       have cv:∀ y∈pk++pn,x.i≠y.i:=λ y hy=>by
        rcases fN.1 hy with hy|hy
        . exact (p3 y hy x (by simp)).1.symm
        . exact (p2.1 y hy).1
       refine ih (pk++pn) (listed.setIfInBounds x.i true) U (oF kk x.key x.val kv) ?_ ?_ ?_ ?_ ?_ hI (HI vC) ?_ ?_
       . simp at hl ⊢; omega
       . intro y hy;rw[getD_set_ne true (cv y hy)];exact Ac y (Bv y hy)
       . intro j oj ma h0;have ZS:x.i≠j:=λ e=>by subst e; rw[Rz]at h0; cases h0
         rw[getD_set_ne true ZS]at h0;rcases tq j oj ma h0 with ⟨y,hy,rfl⟩|h
         . left;refine⟨y,?_,rfl⟩;simp only[fN,fe]at hy ⊢;rcases hy with hy|rfl|hy
           . exact .inl hy
           . exact absurd rfl ZS
           . exact .inr hy
         . right;exact λ y hy=>h y (Bv y hy)
       . rw[List.pairwise_append];exact⟨p1,p2.2,λ y hy z hz=>p3 y hy z (by simp[hz])⟩
       . intro y hy;obtain⟨o',v',q1,q2,q3,q4,q5,q6⟩:=cw y (by simp only[fN,fe]at hy ⊢; rcases hy with hy|hy; exact .inl hy; exact .inr (.inr hy))
         exact⟨o',v',q1,q2,q3,q4,q5,λ ed he hb=>getD_set_true (q6 ed he hb)⟩
       . intro y hy kU;rcases uD _ _ _ kU with e|e
         . simp only[AV.int.injEq,true_and]at e;rcases fN.1 hy with hy|hy
           . exact (p3 y hy x (by simp)).2 e
           . exact (p2.1 y hy).2 e.symm
         . exact fL y (by simp only[fN,fe]at hy ⊢; rcases hy with hy|hy; exact .inl hy; exact .inr (.inr hy)) e
       . rw[<- wD pk x pn vC (λ y hy=>(p3 y hy x (by simp)).2)];intro ky dK sa;refine hK ky (by rw[dK]; simp) λ j=>?_;rw[sa j]
         by_cases e:x.i=j
         . subst e;rw[Rz];constructor
           . rintro⟨h,_⟩; cases h
           . rintro⟨_,h⟩; exact absurd ⟨x,by simp,rfl⟩ h
         . rw[getD_set_ne true e];refine and_congr_right λ _=>not_congr ?_;constructor
           . rintro⟨y,hy,rfl⟩; exact⟨y,Bv y hy,rfl⟩
           . rintro⟨y,hy,rfl⟩;refine⟨y,?_,rfl⟩;simp only[fN,fe]at hy ⊢;rcases hy with hy|rfl|hy
             . exact .inl hy
             . exact absurd rfl e
             . exact .inr hy
def mh (ops:Array Oper):List (Bool×Nat)->Array Bool->Option (Array Bool)
 | [],listed=>some listed
 | (true,i)::r,listed=>cond ((Region.ready .any ops listed).contains i&&Region.free .any ops listed i) (mh ops r (listed.setIfInBounds i true)) none
 | (false,i)::r,listed=>cond (Region.ready .any ops listed==[i]&&!lV ops i) (mh ops r (listed.setIfInBounds i true)) none
theorem uR {m:Nat} {oC:Array Bool} {K0:Env->St->Prop} (uy:∀ ρ U,Dn ops oC->cE B az U->K0 ρ U->ki C mu ops (cE B az) K Kp m oC ρ U):∀ (cI:List (Bool×Nat)) (listed:Array Bool) (ρ:Env) (U:St),mh ops cI listed=some oC->Dn ops listed->cE B az U->jH C mu ops B az K0 Kp cI ρ U ->
 ki C mu ops (cE B az) K Kp (cI.length+m) listed ρ U
 | [],listed,ρ,U,hp,hD,hI,h=>by
   simp only[mh,fZ]at hp;subst hp;simpa using uy ρ U hD hI h
 | (true,i)::r,listed,ρ,U,hp,hD,hI,h=>by
   simp only[mh]at hp;cases hc:((Region.ready .any ops listed).contains i&&Region.free .any ops listed i) with
   | false=>rw[hc]at hp; cases hp
   | true =>
     rw[hc]at hp;simp only[bV]at hc;obtain⟨o,v,ho,fz,hr⟩:=h;have:=zI ho (r.length+m) listed ρ U (Region.free_spec ho hc.2) (by simpa using hc.1) hD fz hI (uR uy r _ _ U hp (hD.set (by simpa using hc.1)) hI hr);rw[show ((true,i)::r).length+m=r.length+m+1 by simp; omega];exact this
 | (false,i)::r,listed,ρ,U,hp,hD,hI,h=>by
   simp only[mh]at hp;cases hc:(Region.ready .any ops listed==[i]&&!lV ops i) with
   | false=>rw[hc]at hp; cases hp
   | true =>
     rw[hc]at hp;simp only[bV,beq_iff_eq,Bool.not_eq_true']at hc;obtain⟨hc,La⟩:=hc;rw[show ((false,i)::r).length+m=r.length+m+1 by simp; omega];refine⟨λ h0=>(by rw[hc]at h0; cases h0),λ j hj=>?_⟩;have Cg:=hj;rw[hc,lN]at hj;subst hj;exact AL (.inr hI) (λ de ad zX hr=>uR uy r _ de ad hp (hD.set Cg) (zX.resolve_left (by rw[La]; simp)) hr) h
structure lG where
 t:TypeId
 m:Nat
 kk:IntKind
 l:List Nat
def Jj (I:lG) (o:Oper):Option (Int×Operand):=match o.op,o.dst,o.guard with
 | .insert t (.tmp m) (.const (.int kk a)) v,none,none=>cond (Nat.beq t I.t&&(Nat.beq m I.m&&decide (kk=I.kk))) (some (a,v)) none
 | _,_,_=>none
def ku (ops:Array Oper) (I:lG) (i:Nat):Option (Int×Operand):=(ops[i]?).bind (Jj I)
def Dh (listed:Array Bool) (o:Oper):Bool:=o.after.toList.all λ e=>!Region.binds .any e||listed.getD e.on false
def Bg (ops:Array Oper) (I:lG) (listed:Array Bool):Bool:=(List.range ops.size).all λ j=>listed.getD j true||(I.l.contains j||(match ops[j]? with
 | some o=>I.l.all λ i=>o.after.toList.any λ e=>Region.binds .any e&&Nat.beq e.on i
 | none=>true))
def oh (ops:Array Oper) (I:lG) (listed:Array Bool):Bool :=
 Bg ops I listed&&(I.l.all (λ i=>!listed.getD i true)&&(Nat.beq listed.size ops.size&&(I.l.all (λ i=>Nat.blt i ops.size&&((ku ops I i).isSome&&(match ops[i]? with|some o=>Dh listed o|none=>false)))
  && (decide I.l.Nodup&&decide (I.l.map λ i=>((ku ops I i).map (·.1)).getD 0).Nodup))))
def eW (listed:Array Bool) (l:List Nat):Array Bool:=l.foldl (λ a i=>a.setIfInBounds i true) listed
theorem sX:∀ (l:List Nat) (a:Array Bool),(eW a l).size=a.size
 | [],_=>rfl
 | i::l,a=>by
   show (eW (a.setIfInBounds i true) l).size=_;rw[sX l]; simp
theorem u4:∀ (l:List Nat) (a:Array Bool) (j:Nat),(eW a l).getD j true=false↔a.getD j true=false/\j∉l
 | [],_,_=>by simp[eW]
 | i::l,a,j=>by
   show (eW (a.setIfInBounds i true) l).getD j true=false↔_;rw[u4 l]
   by_cases e:i=j
   . subst e;have:(a.setIfInBounds i true).getD i true=true:=by
      by_cases h:i<a.size
      . simp[h]
      . simp[uY (Nat.le_of_not_lt h)]
     rw[this]; simp
   . rw[getD_set_ne true e]; simp[Ne.symm e]
def lD (C:ck) (ops:Array Oper) (ρ:Env) (I:lG):List sG:=I.l.filterMap λ i=>(ku ops I i).map λ p=>⟨i,p.1,ρ.ev C p.2⟩
def Ji (C:ck) (ops:Array Oper) (B:List Nat) (I:lG) (K:Env->St->Prop) (ρ:Env) (U:St):Prop :=
 ∃ id,ρ.get I.m=.mp id/\U.mp id=some ([],[])/\id∉B/\K ρ (U.set id (.mp (nE I.kk (lD C ops ρ I) ([],[])).1 (nE I.kk (lD C ops ρ I) ([],[])).2))
theorem Jk {I:lG} {o:Oper} {a:Int} {v:Operand} (h:Jj I o=some (a,v)):o.op=.insert I.t (.tmp I.m) (.const (.int I.kk a)) v/\o.dst=none/\o.guard=none:=by
 unfold Jj at h;split at h
 . rename_i t m kk a' v' h1 h2 h3;cases hc:(Nat.beq t I.t&&(Nat.beq m I.m&&decide (kk=I.kk))) with
   | false=>rw[hc]at h; cases h
   | true =>
     rw[hc]at h;simp only[bV,dJ]at hc;obtain⟨e1,e2,e3⟩:=hc;have e1:=dF e1;have e2:=dF e2;simp only[cond_true,fZ,fO]at h;obtain⟨rfl,rfl⟩:=h;exact⟨by rw[h1,e1,e2,e3],h2,h3⟩
 . cases h
theorem GV {U:St} {id:Nat} {kv:List AV×List AV} (h:U.mp id=some kv):U.set id (.mp kv.1 kv.2)=U:=by
 have:=St.nG.1 h;simp only[St.set];cases U with
 | mk live nb =>
   simp only[St.mk.injEq,and_true];funext q;split
   . rename_i e; subst e; exact this.symm
   . rfl
theorem Dn.eW {I:lG} {listed:Array Bool} (hD:Dn ops listed) (hc:oh ops I listed=true):Dn ops (Go.Rip.eW listed I.l):=by
 simp only[oh,bV,eH]at hc;obtain⟨h0,h1,h2,h3,_⟩:=hc;have h2:=dF h2;have mono:∀ (l:List Nat) (a:Array Bool) (j:Nat),a.getD j false=true->(Go.Rip.eW a l).getD j false=true:=λ l=>by
  induction l with
  | nil=>exact λ a j h=>h
  | cons i l ih=>exact λ a j h=>ih _ j (getD_set_true h)
 intro m o ho hl e he hb
 by_cases hm:m∈I.l
 . have:=(h3 m hm).2.2;rw[ho]at this;simp only[Dh,eH,gX]at this;have:=this e (by simpa using he);rw[hb]at this;exact mono _ _ _ (by simpa using this)
 . have aL:m<listed.size:=by rw[h2]; exact (jl.1 ho).1
   have hlm:listed.getD m false=true:=by
    cases hh:listed.getD m true with
    | false =>
      have k:=(u4 I.l listed m).2 ⟨hh,hm⟩;have hs:m<(Go.Rip.eW listed I.l).size:=by rw[sX]; exact aL
      simp[hs]at k hl;rw[k]at hl; cases hl
    | true=>simp[aL]at hh ⊢; exact hh
   exact mono _ _ _ (hD m o ho hlm e he hb)
theorem Lm {I:lG} {listed:Array Bool} {e:TypeId} {mm:Nat} {K1:Env->St->Prop} (ht:oK C.P I.t=some (.i,e)) (hc:oh ops I listed=true)
 (hK1:∀ ρ U,Dn ops (eW listed I.l)->cE B az U->K1 ρ U->ki C mu ops (cE B az) K Kp mm (eW listed I.l) ρ U):∀ ρ U,Dn ops listed->cE B az U->Ji C ops B I K1 ρ U->ki C mu ops (cE B az) K Kp (I.l.length+mm) listed ρ U:=by
 rintro ρ U hD hI ⟨id,hm,Ey,hB,hK⟩;have hDs:=hD.eW hc;simp only[oh,bV,eH,dJ,Bool.not_eq_true']at hc;obtain⟨h0,h1,h2,h3,h4,h5⟩:=hc;have h2:=dF h2;have Jd:∀ i∈I.l,∃ a v,ku ops I i=some (a,v):=λ i hi=>by
  have:=(h3 i hi).2.1;obtain⟨p,hp⟩:=Option.isSome_iff_exists.1 this;exact⟨p.1,p.2,hp⟩
 have kU:∀ x,x∈lD C ops ρ I↔∃ i∈I.l,∃ a v,ku ops I i=some (a,v)/\x=⟨i,a,ρ.ev C v⟩:=λ x=>by
  simp only[lD,List.mem_filterMap,nr];constructor
  . rintro⟨i,hi,⟨a,v⟩,hp,rfl⟩; exact⟨i,hi,a,v,hp,rfl⟩
  . rintro⟨i,hi,a,v,hp,rfl⟩; exact⟨i,hi,(a,v),hp,rfl⟩
 have oe:∀ j,(∃ x∈lD C ops ρ I,x.i=j)↔j∈I.l:=λ j=>by
  constructor
  . rintro⟨x,hx,rfl⟩;obtain⟨i,hi,a,v,hp,rfl⟩:=(kU _).1 hx;exact hi
  . intro hj;obtain⟨a,v,hp⟩:=Jd j hj;exact⟨_,(kU _).2 ⟨j,hj,a,v,hp,rfl⟩,rfl⟩
 rw[<- GV Ey];have hlen:(lD C ops ρ I).length=I.l.length:=by
  have:∀ l:List Nat,(∀ i∈l,∃ a v,ku ops I i=some (a,v))->(l.filterMap λ i=>(ku ops I i).map λ p=>(⟨i,p.1,ρ.ev C p.2⟩:sG)).length=l.length:=λ l=>by
   induction l with
   | nil=>intro _; rfl
   | cons i l ih =>
     intro h;obtain⟨a,v,hp⟩:=h i (by simp);simp only[List.filterMap_cons,hp,Option.map_some,lM,ih λ j hj=>h j (by simp[hj])]
  exact this _ Jd
 have hpw:(lD C ops ρ I).Pairwise (λ x y=>x.i≠y.i/\x.key≠y.key):=by
  have:∀ l:List Nat,(∀ i∈l,∃ a v,ku ops I i=some (a,v))->l.Nodup->(l.map λ i=>((ku ops I i).map (·.1)).getD 0).Nodup->(l.filterMap λ i=>(ku ops I i).map λ p=>(⟨i,p.1,ρ.ev C p.2⟩:sG)).Pairwise (λ x y=>x.i≠y.i/\x.key≠y.key):=λ l=>by
   induction l with
   | nil=>intro _ _ _; exact List.Pairwise.nil
   | cons i l ih =>
     intro h hn hk;obtain⟨a,v,hp⟩:=h i (by simp);rw[List.nodup_cons]at hn;rw[dY,List.nodup_cons]at hk;simp only[List.filterMap_cons,hp,Option.map_some];refine List.Pairwise.cons (λ y hy=>?_) (ih (λ j hj=>h j (by simp[hj])) hn.2 hk.2);rw[List.mem_filterMap]at hy;obtain⟨j,hj,ZT⟩:=hy;rw[nr]at ZT;obtain⟨p,Hw,rfl⟩:=ZT;refine⟨λ e=>hn.1 (by have e:i=j:=e; rw[e]; exact hj),λ e=>hk.1 ?_⟩;have e:a=p.1:=e;refine List.mem_map.2 ⟨j,hj,?_⟩;rw[Hw,hp]; simp[e]
  exact this _ Jd h4 h5
 refine SX (kk:=I.kk) ht hm hB mm _ (lD C ops ρ I) listed U ([],[]) hlen ?_ ?_ hpw ?_ hI ⟨rfl,λ y hy=>by cases hy⟩ (λ x hx=>by simp) ?_
 . intro x hx;exact h1 x.i ((oe x.i).1 ⟨x,hx,rfl⟩)
 . intro j o ho hj;have aL:j<ops.size:=(jl.1 ho).1;simp only[Bg,eH,List.mem_range,gX]at h0;have:=h0 j aL;rw[ho,hj]at this;rcases this with h|h|h
   . cases h
   . left; exact (oe j).2 (by simpa using h)
   . right;intro x hx;simp only[eH]at h;have:=h x.i ((oe x.i).1 ⟨x,hx,rfl⟩);rw[List.any_eq_true]at this;obtain⟨ed,he,hb⟩:=this;simp only[bV]at hb;exact⟨ed,by simpa using he,hb.1,dF hb.2⟩
 . intro x hx;obtain⟨i,hi,a,v,hp,rfl⟩:=(kU _).1 hx;unfold ku at hp;rw[Option.bind_eq_some_iff]at hp;obtain⟨o,ho,hp⟩:=hp;obtain⟨q1,q2,q3⟩:=Jk hp;refine⟨o,v,ho,q1,q2,q3,rfl,λ ed he hb=>?_⟩;have:=(h3 i hi).2.2;rw[ho]at this;simp only[Dh,eH,gX]at this;have:=this ed (by simpa using he);rw[hb]at this;simpa using this
 . intro ky dK sa;have e:ky=eW listed I.l:=by
    apply Array.ext (by rw[sX,dK]);intro j wo o7;have k1:=sa j;have k2:=u4 I.l listed j;rw[oe]at k1;have k3:ky.getD j true=false↔(eW listed I.l).getD j true=false:=k1.trans k2.symm;have e1:ky.getD j true=ky[j]:=by simp[wo]
    have e2:(eW listed I.l).getD j true=(eW listed I.l)[j]:=by simp[o7]
    rw[e1,e2]at k3;cases h1:ky[j]<;>cases h2:(eW listed I.l)[j]<;>simp_all
   rw[e];refine hK1 ρ _ hDs ?_ hK;intro b hb;have cv:b≠id:=λ e=>hB (e▸hb);simp only[St.set,if_neg cv];exact hI b hb
def sv (P:Program) (ops:Array Oper) (cI:List (Bool×Nat)) (I:lG) (post:List (Bool×Nat)):Bool :=
 (match mh ops cI (Array.replicate ops.size false) with|some l=>oh ops I l&&fT ops post (eW l I.l)|none=>false)&&(Nat.beq (cI.length+(I.l.length+post.length)) ops.size&&(match oK P I.t with|some (.i,_)=>true|_=>false))
theorem bo.Ml {nt id:Nat} {ro:Ro} {Q:Ex->Env->St->Prop} {ρ:Env} {U:St} (cI:List (Bool×Nat)) (I:lG) (post:List (Bool×Nat)) (hm:C.P.follows .mixedOrders=true) (cw:jt nt ops=true) (hp:sv C.P ops cI I post=true)
 (h:jH C mu ops B U (Ji C ops B I (jH C mu ops B U (KQ Q) (vp Q) post)) (vp Q) cI ρ U):bo C nt ro (.region id ops true) Q ρ U:=by
 simp only[sv,bV]at hp;obtain⟨h1,h2,h3⟩:=hp;have h2:=dF h2;split at h3
 . rename_i e ht;split at h1
   . rename_i l hl;rw[bV]at h1;refine bo.xl mu (cE B U) hm cw ?_;have:=uR (Lm ht h1.1 (λ de ad hD' zX hk=>p4 post _ de ad h1.2 hD' (.inr zX) hk)) cI _ ρ U hl (Dn.none _ _) (λ _ _=>rfl) h;rw[h2]at this;exact this
   . cases h1
 . cases h3
end
end Go.Rip
namespace Go.Rip
open Go.RowKit
structure Row where
 d:Nat
 l:Nat
 a:Nat
def Iu:Option Nat->Nat
 | some d=>2 ^ d
 | none=>0
def nM:List Nat->Nat
 | []=>0
 | d::l=>Nat.lor (2 ^ d) (nM l)
theorem c8 (k:Nat):∀ l:List Nat,(nM l).testBit k=true↔k∈l
 | []=>by simp[nM]
 | d::l=>by
   show (2 ^ d ||| nM l).testBit k=true↔_;rw[Nat.testBit_or,Nat.testBit_two_pow,gX,c8 k l];simp[eq_comm]
theorem gZ (k:Nat) (o:Option Nat):(Iu o).testBit k=true↔o=some k:=by
 cases o with
 | none=>simp[Iu]
 | some d=>simp[Iu,Nat.testBit_two_pow]
def vP (o:Oper):List Nat:=(o.after.toList.filter λ e=>Region.binds .any e).map (·.on)
def rowOf (ops:Array Oper) (o:Oper):Row:=⟨Iu o.dst,nM (o.looksAt ops),nM (vP o)⟩
def k0 (a b:Nat):Bool:=Nat.beq (Nat.land a b) a
def IG (a b:Nat):Bool:=Nat.beq (Nat.land a b) 0
theorem p6 {a b:Nat} (h:k0 a b=true) (k:Nat) (hk:a.testBit k=true):b.testBit k=true:=by
 have e:a &&& b=a:=dF h;have:=congrArg (λ n=>n.testBit k) e;simp only[Nat.testBit_and,hk,Bool.true_and]at this;exact this
theorem n0 {a b:Nat} (h:IG a b=true) (k:Nat) (hk:a.testBit k=true):¬ b.testBit k=true:=by
 have e:a &&& b=0:=dF h;have:=congrArg (λ n=>n.testBit k) e;simp only[Nat.testBit_and,hk,Bool.true_and,Nat.zero_testBit]at this;simp[this]
def hasB (m i:Nat):Bool:=Nat.beq (Nat.land (Nat.shiftRight m i) 1) 1
theorem lC (m i:Nat):hasB m i=m.testBit i:=by
 have e:Nat.land (Nat.shiftRight m i) 1=1 &&& (m >>> i):=Nat.and_comm _ _;unfold hasB Nat.testBit;rw[e];cases h:Nat.beq (1 &&& m >>> i) 1 with
 | true=>have:=dF h; rw[this]; rfl
 | false =>
   have h1:(1 &&& m >>> i)≠1:=λ e=>by rw[e]at h; simp at h
   have h2:(1 &&& m >>> i)=0:=by
    have:1 &&& (m >>> i)=(m >>> i)%2:=Nat.one_and_eq_mod_two _;omega
   rw[h2]; rfl
def Dz (i:Nat) (x y:Row):Bool:=hasB y.a i||(IG x.d y.l&&(IG x.d y.d&&IG y.d x.l))
def yV (done i:Nat) (x:Row):List Row->Nat->Bool
 | [],_=>true
 | y::r,j=>(Nat.beq j i||(hasB done j||Dz i x y))&&yV done i x r (j+1)
def yU (done i:Nat):List Row->Nat->Bool
 | [],_=>true
 | y::r,j=>(Nat.beq j i||(hasB done j||!k0 y.a done))&&yU done i r (j+1)
def uT (rows:List Row) (n:Nat):List (Bool×Nat)->Nat->Bool
 | [],done=>Nat.beq done (2 ^ n-1)
 | (true,i)::r,done=>match rows[i]? with
   | some x=>!hasB done i&&(k0 x.a done&&(yV done i x rows 0&&uT rows n r (Nat.lor done (2 ^ i))))
   | none=>false
 | (false,i)::r,done=>match rows[i]? with
   | some x=>!hasB done i&&(k0 x.a done&&(yU done i rows 0&&uT rows n r (Nat.lor done (2 ^ i))))
   | none=>false
theorem vR {done i:Nat} {x:Row}:∀ {l:List Row} {j:Nat},yV done i x l j=true->∀ k y,l[k]?=some y->(j+k=i\/done.testBit (j+k)=true\/Dz i x y=true)
 | [],_,_,k,y,hy=>by simp at hy
 | z::r,j,h,k,y,hy=>by
   simp only[yV,bV,gX,lC]at h;cases k with
   | zero =>
     simp at hy; subst hy;rcases h.1 with h|h|h
     . exact .inl (dF h)
     . exact .inr (.inl h)
     . exact .inr (.inr h)
   | succ k =>
     have:=vR h.2 k y (by simpa using hy);rw[show j+(k+1)=j+1+k by omega]; exact this
theorem vQ {done i:Nat}:∀ {l:List Row} {j:Nat},yU done i l j=true->∀ k y,l[k]?=some y->(j+k=i\/done.testBit (j+k)=true\/k0 y.a done=false)
 | [],_,_,k,y,hy=>by simp at hy
 | z::r,j,h,k,y,hy=>by
   simp only[yU,bV,gX,lC,Bool.not_eq_true']at h;cases k with
   | zero =>
     simp at hy; subst hy;rcases h.1 with h|h|h
     . exact .inl (dF h)
     . exact .inr (.inl h)
     . exact .inr (.inr h)
   | succ k =>
     have:=vQ h.2 k y (by simpa using hy);rw[show j+(k+1)=j+1+k by omega]; exact this
def fR (n:Nat) (listed:Array Bool) (done:Nat):Prop:=listed.size=n/\∀ k,k<n->listed[k]?=some (done.testBit k)
section
variable {ops:Array Oper} {listed:Array Bool} {done:Nat}
theorem fR.get (h:fR ops.size listed done) {k:Nat} (hk:k<ops.size) (d:Bool):listed.getD k d=done.testBit k:=by
 have:=h.2 k hk;simp[this]
theorem fR.out (h:fR ops.size listed done) {k:Nat} (hk:¬ k<ops.size) (d:Bool):listed.getD k d=d:=by
 have:listed[k]?=none:=uY (by rw[h.1]; omega);simp[this]
theorem fR.set (h:fR ops.size listed done) (i:Nat):fR ops.size (listed.setIfInBounds i true) (Nat.lor done (2 ^ i)):=by
 refine⟨by simp[h.1],λ k hk=>?_⟩;show _=some ((done ||| 2 ^ i).testBit k);rw[Nat.testBit_or,Nat.testBit_two_pow]
 by_cases e:i=k
 . subst e;have:i<listed.size:=by rw[h.1]; exact hk
   simp[Array.getElem?_setIfInBounds,this]
 . rw[Array.getElem?_setIfInBounds_ne e,h.2 k hk];simp[e]
theorem u3 {i:Nat} {x:Row} (h:(ops.toList.map (rowOf ops))[i]?=some x):∃ o,ops[i]?=some o/\x=rowOf ops o:=by
 rw[jB,nr]at h;obtain⟨o,ho,e⟩:=h;exact⟨o,by simpa using ho,e.symm⟩
theorem qK {o:Oper} {k:Nat}:k∈vP o↔∃ e∈o.after,Region.binds .any e=true/\e.on=k:=by
 simp[vP,and_assoc]
theorem ow (h:fR ops.size listed done) {j:Nat} {o:Oper} (ho:ops[j]?=some o):j∈Region.ready .any ops listed↔done.testBit j=false/\∀ k,k∈vP o->k<ops.size/\done.testBit k=true:=by
 have hj:j<ops.size:=(jl.1 ho).1;rw[mem_ready,h.get hj];refine and_congr_right λ _=>⟨?_,?_⟩
 . rintro⟨o',Rq,b0⟩ k hk;rw[ho]at Rq; cases Rq;obtain⟨e,he,hb,rfl⟩:=qK.1 hk;have:=b0 e he hb
   by_cases hk:e.on<ops.size
   . rw[h.get hk]at this; exact⟨hk,this⟩
   . rw[h.out hk]at this; cases this
 . intro b0;refine⟨o,ho,λ e he hb=>?_⟩;obtain⟨hk,ht⟩:=b0 e.on (qK.2 ⟨e,he,hb,rfl⟩);rw[h.get hk]; exact ht
theorem Db {i:Nat} {o:Oper} (hm:fR ops.size listed done) (ho:ops[i]?=some o) (h3:yV done i (rowOf ops o) (ops.toList.map (rowOf ops)) 0=true):Region.free .any ops listed i=true:=by
 simp only[Region.free,ho,eH,List.mem_range,gX];intro j hj;obtain⟨oj,ma⟩:∃ oj,ops[j]?=some oj:=⟨ops[j],by simp[hj]⟩;rw[ma];have hy:(ops.toList.map (rowOf ops))[j]?=some (rowOf ops oj):=by
  rw[jB]; simp[ma]
 rcases vR h3 j _ hy with e|e|e
 . left; left; simp at e; simp[e]
 . left; right; rw[hm.get hj]; simpa using e
 . right;simp only[Dz,gX,bV,lC]at e;show ((oj.after.any λ e=>Region.binds .any e&&e.on==i)||o.apart ops oj)=true;rw[gX];rcases e with e|⟨e1,e2,e3⟩
   . left;have:=(c8 i _).1 e;obtain⟨ed,he,hb,Af⟩:=qK.1 this;rw[Array.any_eq_true'];exact⟨ed,he,by simp[hb,Af]⟩
   . right;have k1:∀ d,o.dst=some d->d∉oj.looksAt ops:=λ d hd hm=>n0 e1 d ((gZ d _).2 hd) ((c8 d _).2 hm);have k2:∀ d,o.dst=some d->oj.dst≠some d:=λ d hd hm=>n0 e2 d ((gZ d _).2 hd) ((gZ d _).2 hm);have k3:∀ d,oj.dst=some d->d∉o.looksAt ops:=λ d hd hm=>n0 e3 d ((gZ d _).2 hd) ((c8 d _).2 hm);unfold Oper.apart;cases yx:o.dst<;>cases qX:oj.dst<;>simp only[bV,Bool.not_eq_true',bne_iff_ne,ne_eq,Bool.and_self,and_self,true_and,and_true]
     . rename_i d; simpa using k3 d qX
     . rename_i d; exact⟨by simpa using k1 d yx,by simp⟩
     . rename_i d d';refine⟨⟨by simpa using k1 d yx,λ e=>k2 d yx (by rw[qX]; exact e)⟩,by simpa using k3 d' qX⟩
theorem xi {i:Nat} {o:Oper} (hm:fR ops.size listed done) (ho:ops[i]?=some o) (h1:done.testBit i=false) (sub:∀ k,k∈vP o->k<ops.size/\done.testBit k=true) (h3:yU done i (ops.toList.map (rowOf ops)) 0=true):Region.ready .any ops listed=[i]:=by
 have key:∀ j,j∈Region.ready .any ops listed->j=i:=λ j hj=>by
  obtain⟨h0,oj,ma,_⟩:=mem_ready.1 hj;have hr:=(ow hm ma).1 hj;have Hq:j<ops.size:=(jl.1 ma).1;have hy:(ops.toList.map (rowOf ops))[j]?=some (rowOf ops oj):=by
   rw[jB]; simp[ma]
  rcases vQ h3 j _ hy with e|e|e
  . simpa using e
  . rw[cq]at e; rw[hr.1]at e; cases e
  . exfalso;have:k0 (rowOf ops oj).a done=true:=by
     unfold k0;have e2:(rowOf ops oj).a &&& done=(rowOf ops oj).a:=by
      apply Nat.eq_of_testBit_eq;intro k;rw[Nat.testBit_and];cases hk:(rowOf ops oj).a.testBit k with
      | false=>rfl
      | true=>rw[(hr.2 k ((c8 k _).1 hk)).2]; rfl
     show Nat.beq ((rowOf ops oj).a &&& done) _=true;rw[e2]; simp
    rw[this]at e; cases e
 have kU:=(ow hm ho).2 ⟨h1,sub⟩;have hnd:(Region.ready .any ops listed).Nodup:=(List.Pairwise.filter _ List.nodup_range)
 match hl:Region.ready .any ops listed with
 | []=>rw[hl]at kU; cases kU
 | [x]=>rw[hl]at key; rw[key x (by simp)]
 | x::y::zs =>
   rw[hl]at key hnd;have e1:=key x (by simp);have e2:=key y (by simp);subst e1; subst e2;simp at hnd
theorem uU:∀ (cI:List (Bool×Nat)) (listed:Array Bool) (done:Nat),fR ops.size listed done->done<2 ^ ops.size->uT (ops.toList.map (rowOf ops)) ops.size cI done=true->fT ops cI listed=true
 | [],listed,done,hm,aL,h=>by
   have e:done=2 ^ ops.size-1:=dF h;simp only[fT,List.isEmpty_iff];rw[List.eq_nil_iff_forall_not_mem];intro j hj;obtain⟨h0,o,ho,_⟩:=mem_ready.1 hj;have Hq:j<ops.size:=(jl.1 ho).1;rw[hm.get Hq,e,Nat.testBit_two_pow_sub_one]at h0;simp[Hq]at h0
 | (true,i)::r,listed,done,hm,aL,h=>by
   simp only[uT]at h;split at h
   . rename_i x hx;obtain⟨o,ho,rfl⟩:=u3 hx;simp only[bV,Bool.not_eq_true',lC]at h;obtain⟨h1,h2,h3,h4⟩:=h;have hi:i<ops.size:=(jl.1 ho).1;have qj:Nat.lor done (2 ^ i)<2 ^ ops.size:=Nat.or_lt_two_pow aL (Nat.pow_lt_pow_right (by omega) hi);have sub:∀ k,k∈vP o->k<ops.size/\done.testBit k=true:=λ k hk=>by
      have:=p6 h2 k ((c8 k _).2 hk);refine⟨?_,this⟩;rcases gI k ops.size with h|h
      . exact h
      . rw[Nat.testBit_lt_two_pow (Nat.lt_of_lt_of_le aL (Nat.pow_le_pow_right (by omega) h))]at this; cases this
     simp only[fT,bV];refine⟨⟨?_,?_⟩,uU r _ _ (hm.set i) qj h4⟩
     . simp only[List.contains_iff_mem];exact (ow hm ho).2 ⟨h1,sub⟩
     . simp only[Region.free,ho,eH,List.mem_range,gX];intro j hj;obtain⟨oj,ma⟩:∃ oj,ops[j]?=some oj:=⟨ops[j],by simp[hj]⟩;rw[ma];have hy:(ops.toList.map (rowOf ops))[j]?=some (rowOf ops oj):=by
        rw[jB]; simp[ma]
       rcases vR h3 j _ hy with e|e|e
       . left; left; simp at e; simp[e]
       . left; right; rw[hm.get hj]; simpa using e
       . right;simp only[Dz,gX,bV,lC]at e;show ((oj.after.any λ e=>Region.binds .any e&&e.on==i)||o.apart ops oj)=true;rw[gX];rcases e with e|⟨e1,e2,e3⟩
         . left;have:=(c8 i _).1 e;obtain⟨ed,he,hb,Af⟩:=qK.1 this;rw[Array.any_eq_true'];exact⟨ed,he,by simp[hb,Af]⟩
         . right;have k1:∀ d,o.dst=some d->d∉oj.looksAt ops:=λ d hd hm=>n0 e1 d ((gZ d _).2 hd) ((c8 d _).2 hm);have k2:∀ d,o.dst=some d->oj.dst≠some d:=λ d hd hm=>n0 e2 d ((gZ d _).2 hd) ((gZ d _).2 hm);have k3:∀ d,oj.dst=some d->d∉o.looksAt ops:=λ d hd hm=>n0 e3 d ((gZ d _).2 hd) ((c8 d _).2 hm);unfold Oper.apart;cases yx:o.dst<;>cases qX:oj.dst<;>simp only[bV,Bool.not_eq_true',bne_iff_ne,ne_eq,Bool.and_self,and_self,true_and,and_true]
           . rename_i d; simpa using k3 d qX
           . rename_i d; exact⟨by simpa using k1 d yx,by simp⟩
           . rename_i d d';refine⟨⟨by simpa using k1 d yx,λ e=>k2 d yx (by rw[qX]; exact e)⟩,by simpa using k3 d' qX⟩
   . cases h
 | (false,i)::r,listed,done,hm,aL,h=>by
   simp only[uT]at h;split at h
   . rename_i x hx;obtain⟨o,ho,rfl⟩:=u3 hx;simp only[bV,Bool.not_eq_true',lC]at h;obtain⟨h1,h2,h3,h4⟩:=h;have hi:i<ops.size:=(jl.1 ho).1;have qj:Nat.lor done (2 ^ i)<2 ^ ops.size:=Nat.or_lt_two_pow aL (Nat.pow_lt_pow_right (by omega) hi);have sub:∀ k,k∈vP o->k<ops.size/\done.testBit k=true:=λ k hk=>by
      have:=p6 h2 k ((c8 k _).2 hk);refine⟨?_,this⟩;rcases gI k ops.size with h|h
      . exact h
      . rw[Nat.testBit_lt_two_pow (Nat.lt_of_lt_of_le aL (Nat.pow_le_pow_right (by omega) h))]at this; cases this
     simp only[fT,bV,beq_iff_eq];refine⟨?_,uU r _ _ (hm.set i) qj h4⟩;have key:∀ j,j∈Region.ready .any ops listed->j=i:=λ j hj=>by
      obtain⟨h0,oj,ma,_⟩:=mem_ready.1 hj;have hr:=(ow hm ma).1 hj;have Hq:j<ops.size:=(jl.1 ma).1;have hy:(ops.toList.map (rowOf ops))[j]?=some (rowOf ops oj):=by
       rw[jB]; simp[ma]
      rcases vQ h3 j _ hy with e|e|e
      . simpa using e
      . rw[cq]at e; rw[hr.1]at e; cases e
      . exfalso;have:k0 (rowOf ops oj).a done=true:=by
         unfold k0;have e2:(rowOf ops oj).a &&& done=(rowOf ops oj).a:=by
          apply Nat.eq_of_testBit_eq;intro k;rw[Nat.testBit_and];cases hk:(rowOf ops oj).a.testBit k with
          | false=>rfl
          | true=>rw[(hr.2 k ((c8 k _).1 hk)).2]; rfl
         show Nat.beq ((rowOf ops oj).a &&& done) _=true;rw[e2]; simp
        rw[this]at e; cases e
     have kU:=(ow hm ho).2 ⟨h1,sub⟩;have hnd:(Region.ready .any ops listed).Nodup:=(List.Pairwise.filter _ List.nodup_range)
     match hl:Region.ready .any ops listed with
     | []=>rw[hl]at kU; cases kU
     | [x]=>rw[hl]at key; rw[key x (by simp)]
     | x::y::zs =>
       rw[hl]at key hnd;have e1:=key x (by simp);have e2:=key y (by simp);subst e1; subst e2;simp at hnd
   . cases h
end
def AH:List Row->List Row->Bool
 | [],[]=>true
 | x::xs,y::ys=>Nat.beq x.d y.d&&(Nat.beq x.l y.l&&(Nat.beq x.a y.a&&AH xs ys))
 | _,_=>false
theorem zt:∀ {a b:List Row},AH a b=true->a=b
 | [],[],_=>rfl
 | x::xs,y::ys,h=>by
   simp only[AH,bV]at h;obtain⟨h1,h2,h3,h4⟩:=h;obtain⟨a,b,c⟩:=x;obtain⟨a',b',c'⟩:=y;have e1:a=a':=dF h1;have e2:b=b':=dF h2;have e3:c=c':=dF h3;rw[e1,e2,e3,zt h4]
 | [],_::_,h=>by cases h
 | _::_,[],h=>by cases h
structure Pl where
 steps:List (Bool×Nat)
 rows:List Row
def Fp (ops:Array Oper) (p:Pl):Bool:=AH (ops.toList.map (rowOf ops)) p.rows&&(uT p.rows ops.size p.steps 0&&Nat.beq p.steps.length ops.size)
theorem BF {ops:Array Oper} {p:Pl} (h:Fp ops p=true):(fT ops p.steps (Array.replicate ops.size false)&&(p.steps.length==ops.size))=true:=by
 simp only[Fp,bV]at h;obtain⟨h1,h2,h3⟩:=h;rw[<- zt h1]at h2;simp only[bV,beq_iff_eq];refine⟨uU _ _ 0 ⟨by simp,λ k hk=>by simp[hk]⟩ (Nat.two_pow_pos _) h2,dF h3⟩
def ov (ops:Array Oper) (rows:List Row):List (Bool×Nat)->Nat->Option Nat
 | [],done=>some done
 | (true,i)::r,done=>match rows[i]? with
   | some x=>cond (!hasB done i&&(k0 x.a done&&yV done i x rows 0)) (ov ops rows r (Nat.lor done (2 ^ i))) none
   | none=>none
 | (false,i)::r,done=>match rows[i]? with
   | some x=>cond (!hasB done i&&(k0 x.a done&&(yU done i rows 0&&!lV ops i))) (ov ops rows r (Nat.lor done (2 ^ i))) none
   | none=>none
section
variable {ops:Array Oper}
theorem uV:∀ (cI:List (Bool×Nat)) (listed:Array Bool) (done dn:Nat),fR ops.size listed done->done<2 ^ ops.size->ov ops (ops.toList.map (rowOf ops)) cI done=some dn ->
 ∃ l,mh ops cI listed=some l/\fR ops.size l dn/\dn<2 ^ ops.size
 | [],listed,done,dn,hm,aL,h=>by
   simp only[ov,fZ]at h;subst h;exact⟨listed,rfl,hm,aL⟩
 | (b,i)::r,listed,done,dn,hm,aL,h=>by
   obtain⟨x,hx⟩:∃ x,(ops.toList.map (rowOf ops))[i]?=some x:=by
    cases b<;>simp only[ov]at h<;>split at h<;>first|exact⟨_,by assumption⟩|cases h
   obtain⟨o,ho,rfl⟩:=u3 hx;have hi:i<ops.size:=(jl.1 ho).1;have qj:Nat.lor done (2 ^ i)<2 ^ ops.size:=Nat.or_lt_two_pow aL (Nat.pow_lt_pow_right (by omega) hi);have sub:k0 (rowOf ops o).a done=true->∀ k,k∈vP o->k<ops.size/\done.testBit k=true:=λ h2 k hk=>by
    have:=p6 h2 k ((c8 k _).2 hk);refine⟨?_,this⟩;rcases gI k ops.size with h|h
    . exact h
    . rw[Nat.testBit_lt_two_pow (Nat.lt_of_lt_of_le aL (Nat.pow_le_pow_right (by omega) h))]at this; cases this
   cases b with
   | true =>
     simp only[ov,hx]at h;cases hc:(!hasB done i&&(k0 (rowOf ops o).a done&&yV done i (rowOf ops o) (ops.toList.map (rowOf ops)) 0)) with
     | false=>rw[hc]at h; cases h
     | true =>
       rw[hc,cond_true]at h;simp only[bV,Bool.not_eq_true',lC]at hc;obtain⟨l,k1,k2,k3⟩:=uV r _ _ dn (hm.set i) qj h;refine⟨l,?_,k2,k3⟩;have EG:(Region.ready .any ops listed).contains i=true:=by
        simp only[List.contains_iff_mem]; exact (ow hm ho).2 ⟨hc.1,sub hc.2.1⟩
       have Ds:Region.free .any ops listed i=true:=Db hm ho hc.2.2;simp only[mh,EG,Ds,Bool.and_self,cond_true];exact k1
   | false =>
     simp only[ov,hx]at h;cases hc:(!hasB done i&&(k0 (rowOf ops o).a done&&(yU done i (ops.toList.map (rowOf ops)) 0&&!lV ops i))) with
     | false=>rw[hc]at h; cases h
     | true =>
       rw[hc,cond_true]at h;simp only[bV,Bool.not_eq_true',lC]at hc;obtain⟨l,k1,k2,k3⟩:=uV r _ _ dn (hm.set i) qj h;refine⟨l,?_,k2,k3⟩;have y6:Region.ready .any ops listed=[i]:=xi hm ho hc.1 (sub hc.2.1) hc.2.2.1;have La:lV ops i=false:=by simpa using hc.2.2.2
       simp only[mh,y6,La,ib,dZ,Bool.and_self,cond_true];exact k1
def Is (im:Nat) (done:Nat):List Row->Nat->Bool
 | [],_=>true
 | y::r,j=>(hasB done j||(hasB im j||k0 im y.a))&&Is im done r (j+1)
def Lt (ops:Array Oper) (rows:List Row) (I:lG) (done:Nat):Bool:=I.l.all λ i=>!hasB done i&&((ku ops I i).isSome&&(match rows[i]? with|some x=>k0 x.a done|none=>false))
def increasing:List Nat->Bool
 | a::b::l=>Nat.blt a b&&increasing (b::l)
 | _=>true
def pH:List Int->Bool
 | a::b::l=>decide (a<b)&&pH (b::l)
 | _=>true
def zj (P:Program) (ops:Array Oper) (rows:List Row) (cI:List (Bool×Nat)) (I:lG) (post:List (Bool×Nat)):Bool :=
 AH (ops.toList.map (rowOf ops)) rows&&((match ov ops rows cI 0 with
  | some dn=>Is (nM I.l) dn rows 0&&(Lt ops rows I dn&&uT rows ops.size post (Nat.lor dn (nM I.l)))
  | none=>false)&&(increasing I.l&&(pH (I.l.map λ i=>((ku ops I i).map (·.1)).getD 0)&&(Nat.beq (cI.length+(I.l.length+post.length)) ops.size&&(match oK P I.t with|some (.i,_)=>true|_=>false)))))
theorem vF:∀ l:List Nat,increasing l=true->l.Pairwise (·<·)
 | [],_=>List.Pairwise.nil
 | [a],_=>List.pairwise_singleton ..
 | a::b::l,h=>by
   simp only[increasing,bV]at h;have Hi:a<b:=Nat.le_of_ble_eq_true h.1;have ih:=vF (b::l) h.2;refine List.Pairwise.cons (λ y hy=>?_) ih;rcases fe.1 hy with rfl|hy
   . exact Hi
   . exact Nat.lt_trans Hi ((List.pairwise_cons.1 ih).1 y hy)
theorem tE:∀ l:List Int,pH l=true->l.Pairwise (·<·)
 | [],_=>List.Pairwise.nil
 | [a],_=>List.pairwise_singleton ..
 | a::b::l,h=>by
   simp only[pH,bV,dJ]at h;have ih:=tE (b::l) h.2;refine List.Pairwise.cons (λ y hy=>?_) ih;rcases fe.1 hy with rfl|hy
   . exact h.1
   . exact Int.lt_trans h.1 ((List.pairwise_cons.1 ih).1 y hy)
theorem B2 {im done:Nat}:∀ {l:List Row} {j:Nat},Is im done l j=true->∀ k y,l[k]?=some y->(done.testBit (j+k)=true\/im.testBit (j+k)=true\/k0 im y.a=true)
 | [],_,_,k,y,hy=>by simp at hy
 | z::r,j,h,k,y,hy=>by
   simp only[Is,bV,gX,lC]at h;cases k with
   | zero=>simp at hy; subst hy; exact h.1
   | succ k =>
     have:=B2 h.2 k y (by simpa using hy);rw[show j+(k+1)=j+1+k by omega]; exact this
theorem fR.eW {n:Nat}:∀ (l:List Nat) (listed:Array Bool) (done:Nat),fR ops.size listed done->fR ops.size (Go.Rip.eW listed l) (Nat.lor done (nM l))
 | [],listed,done,h=>by
   show fR ops.size listed (done ||| 0);rw[Nat.or_zero]; exact h
 | i::l,listed,done,h=>by
   have:=fR.eW (n:=n) l _ _ (h.set i);show fR ops.size (Go.Rip.eW (listed.setIfInBounds i true) l) (done ||| (2 ^ i ||| nM l));rw[<- Nat.or_assoc]; exact this
theorem GL {P:Program} {rows:List Row} {cI:List (Bool×Nat)} {I:lG} {post:List (Bool×Nat)} (h:zj P ops rows cI I post=true):sv P ops cI I post=true:=by
 simp only[zj,bV]at h;obtain⟨h1,h2,h3,h4,h5,h6⟩:=h;rw[<- zt h1]at h2;split at h2
 . rename_i dn hd;simp only[bV]at h2;obtain⟨b1,b2,b3⟩:=h2;obtain⟨l,k1,k2,k3⟩:=uV cI (Array.replicate ops.size false) 0 dn ⟨by simp,λ k hk=>by simp[hk]⟩ (Nat.two_pow_pos _) hd;have aaH:=vF _ h3;have YP:=tE _ h4;simp only[Lt,eH,bV,Bool.not_eq_true',lC]at b2;have EI:∀ i∈I.l,∃ o,ops[i]?=some o/\k0 (rowOf ops o).a dn=true:=λ i hi=>by
    have:=(b2 i hi).2.2;split at this
    . rename_i x hx;obtain⟨o,ho,rfl⟩:=u3 hx;exact⟨o,ho,this⟩
    . cases this
   have aL:∀ i∈I.l,i<ops.size:=λ i hi=>by
    obtain⟨o,ho,_⟩:=EI i hi;exact (jl.1 ho).1
   have him:nM I.l<2 ^ ops.size:=by
    have:∀ l:List Nat,(∀ i∈l,i<ops.size)->nM l<2 ^ ops.size:=λ l=>by
     induction l with
     | nil=>intro _; exact Nat.two_pow_pos _
     | cons i l ih=>intro hh; exact Nat.or_lt_two_pow (Nat.pow_lt_pow_right (by omega) (hh i (by simp))) (ih λ j hj=>hh j (by simp[hj]))
    exact this _ aL
   have TT:∀ {o:Oper} {m:Nat},m<2 ^ ops.size->k0 (rowOf ops o).a m=true->∀ e∈o.after,Region.binds .any e=true->m.testBit e.on=true:=λ {o m} K6 hs e he hb =>
    p6 hs e.on ((c8 _ _).2 (qK.2 ⟨e,he,hb,rfl⟩))
   simp only[sv,k1,bV];refine⟨⟨?_,uU post _ _ (fR.eW (n:=0) I.l l dn k2) (Nat.or_lt_two_pow k3 him) b3⟩,h5,h6⟩;simp only[oh,Bg,bV,eH,List.mem_range,gX,dJ,Bool.not_eq_true'];refine⟨λ j hj=>?_,λ i hi=>?_,?_,λ i hi=>⟨?_,(b2 i hi).2.1,?_⟩,aaH.imp (λ h=>Nat.ne_of_lt h),YP.imp (λ h=>Int.ne_of_lt h)⟩
   . obtain⟨o,ho⟩:∃ o,ops[j]?=some o:=⟨ops[j],by simp[hj]⟩;have hy:(ops.toList.map (rowOf ops))[j]?=some (rowOf ops o):=by rw[jB]; simp[ho]
     rcases B2 b1 j _ hy with h|h|h
     . left; rw[k2.get hj]; simpa using h
     . right; left;have:=(c8 _ _).1 h;simpa using this
     . right; right;rw[ho];show (I.l.all λ i=>o.after.toList.any λ e=>Region.binds .any e&&Nat.beq e.on i)=true;rw[eH];intro i hi;have:=p6 h i ((c8 _ _).2 hi);obtain⟨e,he,hb,Af⟩:=qK.1 ((c8 _ _).1 this);rw[List.any_eq_true];exact⟨e,by simpa using he,by simp[hb,Af]⟩
   . rw[k2.get (aL i hi)]; exact (b2 i hi).1
   . rw[k2.1]; simp
   . show Nat.ble (i+1) ops.size=true;exact Nat.ble_eq_true_of_le (aL i hi)
   . obtain⟨o,ho,hs⟩:=EI i hi;rw[ho];simp only[Dh,eH,gX,Bool.not_eq_true'];intro e he;cases hb:Region.binds .any e with
     | false=>exact .inl rfl
     | true =>
       right;have ht:=TT k3 hs e (by simpa using he) hb;have qj:e.on<ops.size:=by
        rcases gI e.on ops.size with h|h
        . exact h
        . rw[Nat.testBit_lt_two_pow (Nat.lt_of_lt_of_le k3 (Nat.pow_le_pow_right (by omega) h))]at ht; cases ht
       rw[k2.get qj]; exact ht
 . cases h2
end
end Go.Rip
namespace Go.Rip
open Go.RowKit
inductive T (α:Type) where
 | e
 | n (l:T α) (v:Option α) (r:T α)
theorem wO {a b:Nat} (h:a≠b):Nat.beq a b=false:=by
 cases hb:Nat.beq a b with
 | false=>rfl
 | true=>exact absurd (dF hb) h
theorem JE {a b:Nat} (h:a=b):Nat.beq a b=true:=by subst h; exact Nat.beq_refl a
namespace T
variable {α:Type}
def get:T α->Nat->Option α
 | .e,_=>none
 | .n l v r,i=>cond (Nat.beq i 0) v (cond (Nat.beq (i%2) 1) (l.get (i / 2)) (r.get (i / 2-1)))
def u5:Nat->T α->Nat->Option α->T α
 | 0,t,_,_=>t
 | f+1,.e,i,v=>cond (Nat.beq i 0) (.n .e v .e) (cond (Nat.beq (i%2) 1) (.n (u5 f .e (i / 2) v) none .e) (.n .e none (u5 f .e (i / 2-1) v)))
 | f+1,.n l w r,i,v=>cond (Nat.beq i 0) (.n l v r) (cond (Nat.beq (i%2) 1) (.n (u5 f l (i / 2) v) w r) (.n l w (u5 f r (i / 2-1) v)))
def set (t:T α) (i:Nat) (v:Option α):T α:=u5 (i+1) t i v
theorem O9:∀ (f:Nat) (t:T α) (i j:Nat) (v:Option α),i<f->(u5 f t i v).get j=if j=i then v else t.get j:=by
 intro f
 induction f with
 | zero=>intro t i j v h; omega
 | succ f ih =>
   intro t i j v h;have key:∀ (l r:T α) (w:Option α),(cond (Nat.beq i 0) (.n l v r) (cond (Nat.beq (i%2) 1) (.n (u5 f l (i / 2) v) w r) (.n l w (u5 f r (i / 2-1) v))):T α).get j=if j=i then v else (T.n l w r).get j:=λ l r w=>by
    by_cases hi:i=0
    . subst hi;simp only[Nat.beq_refl,cond_true,get]
      by_cases hj:j=0
      . subst hj; simp
      . have:Nat.beq j 0=false:=wO hj;simp[this,hj]
    . have Eo:Nat.beq i 0=false:=wO hi;rw[Eo,cond_false]
      by_cases h1:i%2=1
      . have hb:Nat.beq (i%2) 1=true:=JE h1;rw[hb,cond_true];simp only[get]
        by_cases hj:j=0
        . subst hj;have:(0:Nat)≠i:=λ e=>hi e.symm;simp[this]
        . have Cg:Nat.beq j 0=false:=wO hj;rw[Cg,cond_false,cond_false]
          by_cases wo:j%2=1
          . have Ep:Nat.beq (j%2) 1=true:=JE wo;rw[Ep,cond_true,cond_true,ih _ _ _ _ (by omega)]
            by_cases e:j=i
            . subst e; simp
            . rw[if_neg (by omega),if_neg e]
          . have Ep:Nat.beq (j%2) 1=false:=wO wo;rw[Ep,cond_false,cond_false,if_neg (by omega)]
      . have hb:Nat.beq (i%2) 1=false:=wO h1;rw[hb,cond_false];simp only[get]
        by_cases hj:j=0
        . subst hj;have:(0:Nat)≠i:=λ e=>hi e.symm;simp[this]
        . have Cg:Nat.beq j 0=false:=wO hj;rw[Cg,cond_false,cond_false]
          by_cases wo:j%2=1
          . have Ep:Nat.beq (j%2) 1=true:=JE wo;rw[Ep,cond_true,cond_true,if_neg (by omega)]
          . have Ep:Nat.beq (j%2) 1=false:=wO wo;rw[Ep,cond_false,cond_false,ih _ _ _ _ (by omega)]
            by_cases e:j=i
            . subst e; simp
            . rw[if_neg (by omega),if_neg e]
   cases t with
   | n l w r=>exact key l r w
   | e =>
     have:=key .e .e none;simp only[u5];rw[this];congr 1;simp only[get];cases Nat.beq j 0<;>cases Nat.beq (j%2) 1<;>rfl
theorem qM (t:T α) (i j:Nat) (v:Option α):(t.set i v).get j=if j=i then v else t.get j:=O9 _ _ _ _ _ (by omega)
def HV:List α->Nat->T α->T α
 | [],_,t=>t
 | x::xs,i,t=>HV xs (i+1) (t.set i (some x))
theorem Hf:∀ (l:List α) (i:Nat) (t:T α) (j:Nat),(HV l i t).get j=if i<=j/\j<i+l.length then l[j-i]? else t.get j
 | [],i,t,j=>by simp[HV]; omega
 | x::xs,i,t,j=>by
   simp only[HV];rw[Hf xs (i+1) _ j,qM]
   by_cases h1:i+1<=j/\j<i+1+xs.length
   . rw[if_pos h1,if_pos (by simp; omega)];have:j-i=(j-(i+1))+1:=by omega
     rw[this]; simp
   . rw[if_neg h1]
     by_cases h2:j=i
     . subst h2; simp
     . rw[if_neg h2,if_neg (by simp; omega)]
end T
def dS (t:T AV):Env:=⟨λ i=>(t.get i).getD (.aQ [])⟩
theorem KF (t:T AV) (d:Nat) (v:AV):dS (t.set d (some v))=(dS t).put d v:=by
 simp only[dS,Env.put,Env.mk.injEq];funext i;rw[T.qM];split<;>rfl
def wX (t:T AV):Option Nat->AV->T AV
 | some d,v=>t.set d (some v)
 | none,_=>t
theorem n6 (t:T AV) (d:Option Nat) (v:AV):dS (wX t d v)=(dS t).dw d v:=by
 cases d with
 | none=>rfl
 | some d=>exact KF t d v
theorem IH (l:List AV):dS (T.HV l 0 .e)=Env.gU l:=by
 simp only[dS,Env.gU,Env.mk.injEq];funext i;rw[T.Hf]
 by_cases h:i<l.length
 . rw[if_pos (by omega)]; simp[BK]
 . rw[if_neg (by omega)];simp[T.get,BK,rE (Nat.le_of_not_lt h)]
structure ES where
 live:T Live
 n:Nat
def bK (e:ES):St:=⟨λ b=>e.live.get b,some e.n⟩
def ES.set (e:ES) (b:Nat) (x:Live):ES:=⟨e.live.set b (some x),e.n⟩
def ES.del (e:ES) (b:Nat):ES:=⟨e.live.set b none,e.n⟩
def ES.qh (e:ES):Option Nat->ES
 | some b=>e.del b
 | none=>e
def ES.new (e:ES) (x:Live):ES:=⟨e.live.set e.n (some x),e.n+1⟩
theorem kZ (e:ES) (b:Nat) (x:Live):bK (e.set b x)=(bK e).set b x:=by
 simp only[bK,ES.set,St.set,St.mk.injEq,and_true];funext y; rw[T.qM]
theorem zy (e:ES) (b:Nat):bK (e.del b)=(bK e).del b:=by
 simp only[bK,ES.del,St.del,St.mk.injEq,and_true];funext y; rw[T.qM]
theorem Oe (e:ES) (b:Option Nat):bK (e.qh b)=(bK e).qh b:=by
 cases b with
 | none=>rfl
 | some b=>exact zy e b
theorem pw (e:ES) (x:Live):bK (e.new x)=(bK e).new e.n x:=by
 simp only[bK,ES.new,St.new,St.mk.injEq,Option.map_some,and_true];funext y; rw[T.qM]
def OZ:Fn->Fn->Bool
 | .func a,.func b=>Nat.beq a b
 | _,_=>false
theorem SR {a b:Fn} (h:OZ a b=true):a=b:=by
 cases a<;>cases b<;>simp only[OZ,bQ]at h
 rw[dF h]
def II:kf->kf->Bool
 | .full,.full=>true
 | .own a,.own b=>Nat.beq a b
 | .eR,.eR=>true
 | _,_=>false
theorem OY {a b:kf} (h:II a b=true):a=b:=by
 cases a<;>cases b<;>simp only[II,bQ]at h<;>first
  | rfl
  | rw[dF h]
mutual
def gG:AV->AV->Bool
 | .bool a,.bool b=>a==b
 | .int k a,.int k' b=>decide (k=k')&&decide (a=b)
 | .str a,.str b=>decide (a=b)
 | .aU,.aU|.ag,.ag|.ji,.ji|.c6,.c6|.cS,.cS=>true
 | .box a i,.box b j=>Nat.beq a b&&Nat.beq i j
 | .ca l,.ca l'=>nf l l'
 | .vec n c l,.vec n' c' l'=>Nat.beq n n'&&II c c'&&nf l l'
 | .ms b o n z e,.ms b' o' n' z' e'=>Nat.beq b b'&&Nat.beq o o'&&Nat.beq n n'&&Nat.beq z z'&&Nat.beq e e'
 | .mp a,.mp b=>Nat.beq a b
 | .eD ks vs,.eD ks' vs'=>nf ks ks'&&nf vs vs'
 | .func f a b,.func f' a' b'=>OZ f f'&&nf a a'&&nf b b'
 | .iface t v,.iface t' v'=>Nat.beq t t'&&gG v v'
 | .agg l,.agg l'=>nf l l'
 | .aQ l,.aQ l'=>nf l l'
 | .qf a,.qf b=>Nat.beq a b
 | .it a,.it b=>Nat.beq a b
 | .any,.any=>true
 | _,_=>false
def nf:List AV->List AV->Bool
 | [],[]=>true
 | x::xs,y::ys=>gG x y&&nf xs ys
 | _,_=>false
end
mutual
theorem ti:∀ {a b:AV},gG a b=true->a=b
 | .bool a,b,h=>by cases b<;>simp only[gG,bQ]at h; simpa using h
 | .int k a,b,h=>by cases b<;>simp only[gG,bQ]at h; simpa using h
 | .str a,b,h=>by cases b<;>simp only[gG,bQ]at h; simpa using h
 | .aU,b,h=>by cases b<;>simp only[gG,bQ]at h; rfl
 | .ag,b,h=>by cases b<;>simp only[gG,bQ]at h; rfl
 | .ji,b,h=>by cases b<;>simp only[gG,bQ]at h; rfl
 | .c6,b,h=>by cases b<;>simp only[gG,bQ]at h; rfl
 | .cS,b,h=>by cases b<;>simp only[gG,bQ]at h; rfl
 | .box a i,b,h=>by cases b<;>simp only[gG,bQ,bV]at h; rw[dF h.1,dF h.2]
 | .ca l,b,h=>by cases b<;>simp only[gG,bQ]at h; rw[iW h]
 | .vec n c l,b,h=>by cases b<;>simp only[gG,bQ,bV]at h; rw[dF h.1.1,OY h.1.2,iW h.2]
 | .ms b o n z e,b',h=>by
   cases b'<;>simp only[gG,bQ,bV]at h
   rw[dF h.1.1.1.1,dF h.1.1.1.2,dF h.1.1.2,dF h.1.2,dF h.2]
 | .mp a,b,h=>by cases b<;>simp only[gG,bQ]at h; rw[dF h]
 | .eD ks vs,b,h=>by cases b<;>simp only[gG,bQ,bV]at h; rw[iW h.1,iW h.2]
 | .func f a b,b',h=>by cases b'<;>simp only[gG,bQ,bV]at h; rw[SR h.1.1,iW h.1.2,iW h.2]
 | .iface t v,b,h=>by cases b<;>simp only[gG,bQ,bV]at h; rw[dF h.1,ti h.2]
 | .agg l,b,h=>by cases b<;>simp only[gG,bQ]at h; rw[iW h]
 | .aQ l,b,h=>by cases b<;>simp only[gG,bQ]at h; rw[iW h]
 | .qf a,b,h=>by cases b<;>simp only[gG,bQ]at h; rw[dF h]
 | .it a,b,h=>by cases b<;>simp only[gG,bQ]at h; rw[dF h]
 | .any,b,h=>by cases b<;>simp only[gG,bQ]at h; rfl
theorem iW:∀ {a b:List AV},nf a b=true->a=b
 | [],b,h=>by cases b<;>simp only[nf,bQ]at h; rfl
 | x::xs,b,h=>by cases b<;>simp only[nf,bQ,bV]at h; rw[ti h.1,iW h.2]
end
def D6:Option Live->Option Live->Bool
 | some (.box l),some (.box l')=>nf l l'
 | some (.mp a b),some (.mp a' b')=>nf a a'&&nf b b'
 | _,_=>false
theorem KG {a b:Option Live} (h:D6 a b=true):a=b:=by
 unfold D6 at h;split at h
 . rw[iW h]
 . simp only[bV]at h; rw[iW h.1,iW h.2]
 . cases h
end Go.Rip
namespace Go.Rip
open Go.RowKit
structure gd where
 C:ck
 mu:Nat->List Nat
 pf:Nat->Bool
 sm:Nat->List AV->Option AV
 Si:Nat->List AV->ES->Option (AV×ES)
 tr:Nat->Bool
 ft:TypeId
 ins:Nat->Nat->Option (List Row×List (Bool×Nat)×lG×List (Bool×Nat)):=λ _ _=>none
abbrev KR:=cM->ES->Bool
abbrev KC:=Ex->T AV->ES->Bool
abbrev qy:=Nat->List AV->ES->KR->Bool
def rK (k kp:AV->ES->Bool):KR
 | .ret v,e=>k v e
 | .panic v,e=>kp v e
def xX (cf cy:qy) (e:ES):ay->(AV->ES->Bool)->(AV->ES->Bool)->Bool
 | .val v,k,_=>k v e
 | .kI v b x,k,_=>k v (e.set b x)
 | .new kd del x,k,_=>k (kd.at e.n) ((e.qh del).new x)
 | .jF b l,k,_=>l.all λ p=>k p.1 (e.set b p.2)
 | .enter f args,k,kp=>cf f args e (rK k kp)
 | .yield o args,k,kp=>cy o args e (rK k kp)
 | .panic v,_,kp=>kp v e
 | @ay.cond p d r,k,kp=>(@decide p d)&&xX cf cy e r k kp
 | .bad,_,_=>false
def zQ (V:gd) (cf cy:qy) (mu:List Nat) (ops:Array Oper):List Oper->T AV->ES->(T AV->ES->Bool)->(AV->ES->Bool)->Bool
 | [],ρ,e,k,_=>k ρ e
 | o::rest,ρ,e,k,kp=>match fI ops (dS ρ) o.guard with
   | .bool true=>xX cf cy e (gV V.C (lL mu o) o.op (dS ρ) (bK e)) (λ v e'=>zQ V cf cy mu ops rest (wX ρ o.dst v) e' k kp) kp
   | .bool false=>zQ V cf cy mu ops rest (wX ρ o.dst (.aQ [])) e k kp
   | _=>false
def Im (V:gd):ay->Option AV
 | .val v=>some v
 | @ay.cond p d r=>cond (@decide p d) (Im V r) none
 | .enter f args=>V.sm f args
 | _=>none
def JS (B:List Nat) (e0 e:ES):Bool:=B.all λ b=>D6 (e.live.get b) (e0.live.get b)
def Br (C:ck) (B:List Nat) (ρ:Env) (op:Op):Bool:=op.operands.toList.all λ x=>(dH (ρ.ev C x)).all λ b=>B.any λ c=>Nat.beq c b
def nz (V:gd) (cf cy:qy) (mu:List Nat) (ops:Array Oper) (B:List Nat) (e0:ES):List (Bool×Nat)->T AV->ES->(T AV->ES->Bool)->(AV->ES->Bool)->Bool
 | [],ρ,e,k,_=>k ρ e
 | (true,i)::r,ρ,e,k,kp=>match ops[i]? with
   | none=>false
   | some o=>match fI ops (dS ρ) o.guard with
     | .bool true=>quiet o.op&&(!mO o.op||Br V.C B (dS ρ) o.op)&&(match Im V (gV V.C (lL mu o) o.op (dS ρ) (bK e0)) with
       | some v=>nz V cf cy mu ops B e0 r (wX ρ o.dst v) e k kp
       | none=>false)
     | .bool false=>nz V cf cy mu ops B e0 r (wX ρ o.dst (.aQ [])) e k kp
     | _=>false
 | (false,i)::r,ρ,e,k,kp=>match ops[i]? with
   | none=>false
   | some o=>match fI ops (dS ρ) o.guard with
     | .bool true=>xX cf cy e (gV V.C (lL mu o) o.op (dS ρ) (bK e)) (λ v e'=>(JS B e0 e'||pO ops i)&&nz V cf cy mu ops B e0 r (wX ρ o.dst v) e' k kp) kp
     | .bool false=>nz V cf cy mu ops B e0 r (wX ρ o.dst (.aQ [])) e k kp
     | _=>false
def Mh (V:gd) (o:Oper):Bool:=match o.op with
 | .call c=>match c.callee with
   | .value (.func f)=>V.pf f
   | .value _=>false
   | _=>quiet o.op
 | op=>quiet op
def wL (V:gd) (ops:Array Oper):Nat->Array Bool->List (Bool×Nat)
 | 0,_=>[]
 | n+1,listed=>match (Region.ready .any ops listed).find? λ i=>match ops[i]? with|some o=>Mh V o|none=>false with
   | some i=>(true,i)::wL V ops n (listed.setIfInBounds i true)
   | none=>match Region.ready .any ops listed with
     | i::_=>(false,i)::wL V ops n (listed.setIfInBounds i true)
     | []=>[]
def preB (V:gd) (mu:List Nat) (e0:ES):List Oper->T AV->List Nat->List Nat
 | [],_,B=>B
 | o::r,ρ,B=>preB V mu e0 r (wX ρ o.dst (cond (Mh V o) ((Im V (gV V.C (lL mu o) o.op (dS ρ) (bK e0))).getD .any) .any)) (cond (mO o.op) (o.op.operands.toList.flatMap (λ x=>dH ((dS ρ).ev V.C x))++B) B)
def Jz (P:Program) (ty:TypeId) (p:AV) (U:St):Option AV:=match si P ty p U with
 | .val v=>some v
 | @ay.cond q d (.val v)=>cond (@decide q d) (some v) none
 | _=>none
def zr (P:Program) (ρ:Env) (U:St):List ResultVar->Option (List AV)
 | []=>some []
 | .tmp t::rs=>(zr P ρ U rs).map λ vs=>ρ.get t::vs
 | .cell t ty::rs=>match Jz P ty (ρ.get t) U with
   | some v=>(zr P ρ U rs).map λ vs=>v::vs
   | none=>none
abbrev rS:=Nat->List Nat->Nat->Ro->Code->T AV->ES->KC->Bool
def OV (P:Program) (fn:Func) (k:KR):KC:=λ ex ρ e=>match ex with
 | .normal|.ret=>match zr P (dS ρ) (bK e) fn.results.toList with
   | some vs=>k (.ret (s0 vs)) e
   | none=>false
 | .panic x=>k (.panic x) e
 | .exit _=>false
def FX (ft:TypeId) (a:Nat) (k:KR):KR
 | .ret v,e=>match (bK e).box a,(bK e).box (a+1),(bK e).box (a+2) with
   | some [_],some [_],some [_]=>v.scalar&&k (.ret (.aQ [v,.int .i64 0,.bool true])) (((e.set a (.box [v])).set (a+1) (.box [.int .i64 0])).set (a+2) (.box [.bool true]))
   | _,_,_=>false
 | .panic x,e=>match x,(bK e).box a,(bK e).box (a+1),(bK e).box (a+2) with
   | .iface t (.agg [.int .i64 at_]),some [_],some [_],some [_]=>Nat.beq t ft&&k (.ret (.aQ [.aU,.int .i64 at_,.bool false])) ((((e.new (.box [.int .i64 at_])).set a (.box [.aU])).set (a+1) (.box [.int .i64 at_])).set (a+2) (.box [.bool false]))
   | _,_,_,_=>false
def Dk (V:gd) (ev:rS):qy:=λ f args e k =>
 match V.sm f args with
 | some x=>k (.ret x) e
 | none=>match V.Si f args e with
   | some (x,e')=>k (.ret x) e'
   | none=>match V.C.P.funcs[f]? with
     | some fn=>match fn.body with
       | some c=>Nat.ble args.length fn.ntmps&&ev fn.ntmps (V.mu f) f .fn c (T.HV args 0 .e) e (OV V.C.P fn k)
       | none=>false
     | none=>false
def Xq (e:ES):ES:=((e.new (.box [.aU])).new (.box [.int .i64 0])).new (.box [.bool false])
def qA (V:gd) (ev:rS):qy:=λ f args e k =>
 cond (V.tr f) (match args with
  | [_,.func (.func g) first cap]=>dG V.C.P g&&Dk V ev g (first++cap) (Xq e) (FX V.ft e.n k)
  | _=>false) (Dk V ev f args e k)
def endRound (o:Nat) (k:KR):KC:=λ ex _ e=>match (bK e).loop o with
 | some L=>match ex with
   | .normal=>k (.ret (.bool true)) (e.set o (.loop { L with state:=.ready,eF:=none }))
   | .ret=>k (.ret (.bool false)) (e.set o (.loop { L with state:=.done,eF:=some .ret }))
   | .exit id=>k (.ret (.bool false)) (e.set o (.loop { L with state:=.done,eF:=some (.exit id) }))
   | .panic _=>false
 | none=>false
def isReady:LoopState->Bool
 | .ready=>true
 | _=>false
def Lo:LoopState->Bool
 | .busy=>true
 | _=>false
def px (f:Nat->AV):Nat->T AV->T AV
 | 0,t=>t
 | n+1,t=>px f n (t.set n (some (f n)))
def uc (V:gd) (ev:rS):qy:=λ o args e k =>
 match (bK e).loop o with
 | some L=>Nat.beq args.length L.params.size&&L.params.toList.all (λ t=>Nat.blt t L.nt) &&
   ev L.nt (V.mu L.tag) L.tag (.round o) L.assign (px (uW L.ρ L.params.toList args) L.nt .e) e (λ ex ρ e=>match ex with
    | .normal=>match (bK e).loop o with
      | some L'=>isReady L'.state&&ev L.nt (V.mu L.tag) L.tag (.round o) L.body ρ (e.set o (.loop { L' with state:=.busy })) (endRound o k)
      | none=>false
    | _=>false)
 | none=>false
def D5 (o:Nat) (ρ:T AV) (k:KC):KR
 | .ret _,e=>match (bK e).loop o with
   | some L=>!Lo L.state&&(match L.eF with
     | none=>k .normal ρ (e.del o)
     | some .ret=>k .ret ρ (e.del o)
     | some (.exit id)=>k (.exit id) ρ (e.del o)
     | _=>false)
   | none=>false
 | .panic x,e=>k (.panic x) .e e
def Pv (V:gd) (ops:Array Oper) (B:List Nat) (I:lG) (ρ:T AV) (e:ES) (k:T AV->ES->Bool):Bool:=match (dS ρ).get I.m with
 | .mp id=>(match (bK e).mp id with|some ([],[])=>true|_=>false)&&(B.all (λ b=>!Nat.beq b id)&&k ρ (e.set id (.mp (nE I.kk (lD V.C ops (dS ρ) I) ([],[])).1 (nE I.kk (lD V.C ops (dS ρ) I) ([],[])).2)))
 | _=>false
def lT (V:gd):Nat->rS
 | 0=>λ _ _ _ _ _ _ _ _=>false
 | n+1=>λ nt mu tag ro c ρ e k =>
   match c with
   | .skip=>k .normal ρ e
   | .exit id=>k (.exit id) ρ e
   | .ret=>k .ret ρ e
   | .seq a b=>lT V n nt mu tag ro a ρ e λ ex ρ e=>match ex with
     | .normal=>lT V n nt mu tag ro b ρ e k
     | ex=>k ex ρ e
   | .cond x a b=>match (dS ρ).ev V.C x with
     | .bool true=>lT V n nt mu tag ro a ρ e k
     | .bool false=>lT V n nt mu tag ro b ρ e k
     | _=>false
   | .block id a=>lT V n nt mu tag ro a ρ e λ ex ρ e=>match ex with
     | .exit yD=>cond (Nat.beq yD id) (k .normal ρ e) (k (.exit yD) ρ e)
     | ex=>k ex ρ e
   | .loop a=>lT V n nt mu tag ro a ρ e λ ex ρ e=>match ex with
     | .normal=>lT V n nt mu tag ro (.loop a) ρ e k
     | ex=>k ex ρ e
   | .region _ ops false=>jt nt ops&&zQ V (qA V (lT V n)) (uc V (lT V n)) mu ops ops.toList ρ e (λ ρ e=>k .normal ρ e) (λ x e=>k (.panic x) .e e)
   | .region id ops true=>match V.ins tag id with
     | none=>jt nt ops&&(fT ops (wL V ops ops.size (Array.replicate ops.size false)) (Array.replicate ops.size false)&&((wL V ops ops.size (Array.replicate ops.size false)).length==ops.size)) &&
     nz V (qA V (lT V n)) (uc V (lT V n)) mu ops (preB V mu e ops.toList ρ []) e (wL V ops ops.size (Array.replicate ops.size false)) ρ e (λ ρ e=>k .normal ρ e) (λ x e=>k (.panic x) .e e)
     | some (rows,cI,I,post)=>jt nt ops&&(zj V.C.P ops rows cI I post&&nz V (qA V (lT V n)) (uc V (lT V n)) mu ops (preB V mu e ops.toList ρ []) e cI ρ e (λ de e'=>Pv V ops (preB V mu e ops.toList ρ []) I de e' (λ de e'=>nz V (qA V (lT V n)) (uc V (lT V n)) mu ops (preB V mu e ops.toList ρ []) e post de e' (λ ρ e=>k .normal ρ e) (λ x e=>k (.panic x) .e e))) (λ x e=>k (.panic x) .e e))
   | .rangeFunc f ps assign body=>match ro,(dS ρ).ev V.C f with
     | .fn,.func (.func ir) first cap=>dG V.C.P ir&&qA V (lT V n) ir (first++[.qf e.n]++cap) (e.new (.loop ⟨(dS ρ).get,nt,ps,assign,body,.ready,none,tag⟩)) (D5 e.n ρ k)
     | _,_=>false
   | _=>false
def kR (k:KR):cM->St->Prop:=λ r U=>∃ e,U=bK e/\k r e=true
def kA (k:AV->ES->Bool):AV->St->Prop:=λ v U=>∃ e,U=bK e/\k v e=true
def kE (k:T AV->ES->Bool):Env->St->Prop:=λ ρ U=>∃ t e,ρ=dS t/\U=bK e/\k t e=true
def kC (k:KC):Ex->Env->St->Prop
 | .panic x,_,U=>∃ e,U=bK e/\k (.panic x) .e e=true
 | ex,ρ,U=>∃ t e,ρ=dS t/\U=bK e/\k ex t e=true
def FY (ft:TypeId) (a b c:Nat) (R:cM->St->Prop):cM->St->Prop
 | .ret v,U=>v.scalar=true/\(∃ x,U.box a=some [x])/\(∃ x,U.box b=some [x])/\(∃ x,U.box c=some [x])/\R (.ret (.aQ [v,.int .i64 0,.bool true])) (((U.bM a [v]).bM b [.int .i64 0]).bM c [.bool true])
 | .panic x,U=>∃ at_,x=.iface ft (.agg [.int .i64 at_])/\(∃ x,U.box a=some [x])/\(∃ x,U.box b=some [x])/\(∃ x,U.box c=some [x]) /\
    ∀ q,U.cV q->R (.ret (.aQ [.aU,.int .i64 at_,.bool false])) ((((U.new q (.box [.int .i64 at_])).bM a [.aU]).bM b [.int .i64 at_]).bM c [.bool false])
def GY (C:ck) (ft:TypeId) (f:Nat):Prop:=∀ r g first cap U R,dG C.P g=true ->
 (∀ a b c,U.cV a->(U.new a (.box [.aU])).cV b->((U.new a (.box [.aU])).new b (.box [.int .i64 0])).cV c ->
   ae C g (first++cap) (((U.new a (.box [.aU])).new b (.box [.int .i64 0])).new c (.box [.bool false])) (FY ft a b c R))->ae C f [r,.func (.func g) first cap] U R
structure o9 (V:gd):Prop where
 sm:∀ f args x,V.sm f args=some x->Pure V.C f args x
 Si:∀ f args e x e',V.Si f args e=some (x,e')->∀ R,R (.ret x) (bK e')->ae V.C f args (bK e) R
 tr:∀ f,V.tr f=true->GY V.C V.ft f
 mixed:V.C.P.follows .mixedOrders=true
def vM (V:gd) (cf:qy):Prop:=∀ f args e k,cf f args e k=true->ae V.C f args (bK e) (kR k)
def xE (V:gd) (cy:qy):Prop:=∀ o args e k,cy o args e k=true->kh V.C o args (bK e) (kR k)
def te (V:gd) (ev:rS):Prop:=∀ nt mu tag ro c ρ e k,ev nt mu tag ro c ρ e k=true->bo V.C nt ro c (kC k) (dS ρ) (bK e)
theorem qL {e:ES} {b:Nat} (h:(bK e).cV b):b=e.n:=h.2 _ rfl
theorem KB (e:ES) (d:Option Nat):(e.qh d).n=e.n:=by cases d<;>rfl
section
variable {V:gd} {cf cy:qy}
theorem zu (hf:vM V cf) (hy:xE V cy) {e:ES} {k kp:AV->ES->Bool}:∀ (r:ay),xX cf cy e r k kp=true->r.wp V.C (bK e) (kA k) (kA kp)
 | .val v,h=>⟨e,rfl,h⟩
 | .kI v b x,h=>⟨e.set b x,(kZ e b x).symm,h⟩
 | .new kd del x,h=>λ b hb=>by
   rw[<- Oe]at hb ⊢;have:=qL hb;rw[KB]at this;subst this;exact⟨(e.qh del).new x,by rw[pw,KB],h⟩
 | .jF b l,h=>λ p hp=>by
   simp only[xX,eH]at h;exact⟨e.set b p.2,(kZ e b p.2).symm,h p hp⟩
 | .enter f args,h=>(hf f args e _ h).mono λ r U hr=>by cases r<;>exact hr
 | .yield o args,h=>(hy o args e _ h).mono λ r U hr=>by cases r<;>exact hr
 | .panic v,h=>⟨e,rfl,h⟩
 | @ay.cond p d r,h=>by
   simp only[xX,bV]at h;exact⟨@of_decide_eq_true p d h.1,zu hf hy r h.2⟩
 | .bad,h=>by cases h
theorem SW {ops:Array Oper} {B:List Nat} {I:lG} {k:T AV->ES->Bool} (ρ:T AV) (e:ES) (h:Pv V ops B I ρ e k=true):Ji V.C ops B I (kE k) (dS ρ) (bK e):=by
 unfold Pv at h;split at h
 . rename_i id hid;simp only[bV,eH,Bool.not_eq_true']at h;obtain⟨h1,h2,h3⟩:=h;split at h1
   . rename_i Ey;refine⟨id,hid,Ey,λ hm=>?_,ρ,_,rfl,(kZ e id _).symm,h3⟩;have:=h2 id hm;simp at this
   . cases h1
 . cases h
theorem y0 (hf:vM V cf) (hy:xE V cy) {mu:List Nat} {ops:Array Oper} {k:T AV->ES->Bool} {kp:AV->ES->Bool}:∀ (l:List Oper) (ρ:T AV) (e:ES),zQ V cf cy mu ops l ρ e k kp=true ->
 nj V.C mu ops l (dS ρ) (bK e) (kE k) (kA kp)
 | [],ρ,e,h=>⟨ρ,e,rfl,rfl,h⟩
 | o::rest,ρ,e,h=>by
   simp only[zQ]at h;simp only[nj];split at h
   . rename_i hg;rw[hg];refine⟨λ _=>?_,λ h=>(by cases h)⟩;refine ay.wp_mono ?_ _ (zu hf hy _ h);rintro v U ⟨e',rfl,hk⟩;have:=y0 hf hy rest _ e' hk;rw[n6]at this;exact this
   . rename_i hg;rw[hg];refine⟨λ h=>(by cases h),λ _=>?_⟩;have:=y0 hf hy rest _ e h;rw[n6]at this;exact this
   . cases h
theorem OF (hV:o9 V):∀ (r:ay) (v:AV),Im V r=some v->r.yv V.C v
 | .val u,v,h=>by simp only[Im,fZ]at h; exact h
 | @ay.cond p d r,v,h=>by
   simp only[Im]at h;cases hd:@decide p d with
   | false=>rw[hd]at h; cases h
   | true=>rw[hd]at h; exact⟨@of_decide_eq_true p d hd,OF hV r v h⟩
 | .enter f args,v,h=>hV.sm f args v h
 | .kI _ _ _,v,h=>by cases h
 | .new _ _ _,v,h=>by cases h
 | .jF _ _,v,h=>by cases h
 | .yield _ _,v,h=>by cases h
 | .panic _,v,h=>by cases h
 | .bad,v,h=>by cases h
theorem PX {B:List Nat} {e0 e:ES} (h:JS B e0 e=true):cE B (bK e0) (bK e):=λ b hb=>by
 unfold JS at h;rw[eH]at h;exact KG (h b hb)
theorem I7 {C:ck} {B:List Nat} {ρ:Env} {op:Op} (h:Br C B ρ op=true):∀ x∈op.operands.toList,∀ b∈dH (ρ.ev C x),b∈B:=λ x hx b hb=>by
 unfold Br at h;rw[eH]at h;have:=h x hx;rw[eH]at this;have:=this b hb;rw[List.any_eq_true]at this;obtain⟨c,hc,he⟩:=this;rw[<- dF he]; exact hc
theorem l9 (hV:o9 V) (hf:vM V cf) (hy:xE V cy) {mu:List Nat} {ops:Array Oper} {B:List Nat} {e0:ES} {k:T AV->ES->Bool} {kp:AV->ES->Bool}:∀ (l:List (Bool×Nat)) (ρ:T AV) (e:ES),nz V cf cy mu ops B e0 l ρ e k kp=true ->
 jH V.C mu ops B (bK e0) (kE k) (kA kp) l (dS ρ) (bK e)
 | [],ρ,e,h=>⟨ρ,e,rfl,rfl,h⟩
 | (true,i)::r,ρ,e,h=>by
   simp only[nz]at h;split at h
   . cases h
   . rename_i o ho;split at h
     . rename_i hg;simp only[bV,gX,Bool.not_eq_true']at h;obtain⟨⟨h1,h2⟩,h3⟩:=h;split at h3
       . rename_i v hv;refine⟨o,v,ho,.inl ⟨hg,h1,λ EH=>?_,OF hV _ _ hv⟩,?_⟩
         . rcases h2 with h2|h2
           . rw[EH]at h2; cases h2
           . exact I7 h2
         . have:=l9 hV hf hy r _ e h3;rw[n6]at this;exact this
       . cases h3
     . rename_i hg;refine⟨o,.aQ [],ho,.inr ⟨hg,rfl⟩,?_⟩;have:=l9 hV hf hy r _ e h;rw[n6]at this;exact this
     . cases h
 | (false,i)::r,ρ,e,h=>by
   simp only[nz]at h;simp only[jH,jv];split at h
   . cases h
   . rename_i o ho
     try rw[ho]
     try dsimp only
     split at h
     . rename_i hg;rw[hg];refine⟨λ _=>?_,λ h=>(by cases h)⟩;refine ay.wp_mono ?_ _ (zu hf hy _ h);rintro v U ⟨e',rfl,hk⟩;simp only[bV]at hk;refine⟨?_,?_⟩
       . rw[gX]at hk;rcases hk.1 with h|h
         . exact .inr (PX h)
         . exact .inl (S7 h)
       have:=l9 hV hf hy r _ e' hk.2;rw[n6]at this;exact this
     . rename_i hg;rw[hg];refine⟨λ h=>(by cases h),λ _=>?_⟩;have:=l9 hV hf hy r _ e h;rw[n6]at this;exact this
     . cases h
theorem sr {C:ck} {mu:List Nat} {ops:Array Oper} {K K':Env->St->Prop} {Kp vo:AV->St->Prop} (hk:∀ ρ U,K ρ U->K' ρ U) (hp:∀ v U,Kp v U->vo v U):∀ (l:List Oper) {ρ:Env} {U:St},nj C mu ops l ρ U K Kp->nj C mu ops l ρ U K' vo
 | [],_,_,h=>hk _ _ h
 | o::rest,ρ,U,h=>by
   simp only[nj]at h ⊢;have wpp:∀ (r:ay) {U:St} {X:AV->St->Prop},r.wp C U X Kp->r.wp C U X vo:=λ r=>by
    induction r with
    | val _=>exact λ h=>h
    | kI _ _ _=>exact λ h=>h
    | new _ _ _=>exact λ h=>h
    | jF _ _=>exact λ h=>h
    | enter f args=>exact λ h=>h.mono λ r U hr=>by cases r<;>first|exact hr|exact hp _ _ hr
    | yield o args=>exact λ h=>h.mono λ r U hr=>by cases r<;>first|exact hr|exact hp _ _ hr
    | panic v=>exact λ h=>hp _ _ h
    | cond p r ih=>exact λ h=>⟨h.1,ih h.2⟩
    | bad=>exact λ h=>h
   cases hg:fI ops ρ o.guard<;>rw[hg]at h<;>simp only[aA]at h ⊢
   exact⟨λ e=>ay.wp_mono (λ v U hv=>sr hk hp rest hv) _ (wpp _ (h.1 e)),λ e=>sr hk hp rest (h.2 e)⟩
theorem PH {P:Program} {ty:TypeId} {p v:AV} {U:St} (h:Jz P ty p U=some v) {k:AV->Prop} (hk:k v):xR P ty p U k:=by
 unfold Jz at h;unfold xR;split at h
 . rename_i u hu;cases h
   first|exact hk|(rw[hu]; exact hk)
 . rename_i q d u hu;cases hd:@decide q d with
   | false=>rw[hd]at h; cases h
   | true =>
     rw[hd]at h; cases h
     first|exact⟨@of_decide_eq_true q d hd,hk⟩|(rw[hu]; exact⟨@of_decide_eq_true q d hd,hk⟩)
 . cases h
theorem xW {P:Program} {ρ:Env} {U:St}:∀ (rs:List ResultVar) (vs:List AV) (k:List AV->Prop),zr P ρ U rs=some vs->k vs->sV P ρ U rs k
 | [],vs,k,h,hk=>by simp only[zr,fZ]at h; subst h; exact hk
 | .tmp t::rs,vs,k,h,hk=>by
   simp only[zr,nr]at h;obtain⟨us,hu,rfl⟩:=h;exact xW rs us _ hu hk
 | .cell t ty::rs,vs,k,h,hk=>by
   simp only[zr]at h;split at h
   . rename_i v hv;simp only[nr]at h;obtain⟨us,hu,rfl⟩:=h;exact PH hv (xW rs us _ hu hk)
   . cases h
theorem DX (hV:o9 V) {ev:rS} (he:te V ev):vM V (Dk V ev):=λ f args e k h=>by
 simp only[Dk]at h;split at h
 . rename_i x hx;exact hV.sm f args x hx _ _ ⟨e,rfl,h⟩
 . split at h
   . rename_i x e' hx;exact hV.Si f args e x e' hx _ ⟨e',rfl,h⟩
   . split at h
     . rename_i fn hfn;split at h
       . rename_i c hc;simp only[bV]at h;refine ae.HX hfn hc (Nat.le_of_ble_eq_true h.1) ?_;have:=he _ _ _ _ _ _ _ _ h.2;rw[IH]at this;refine this.mono ?_;intro ex ρ U hc;cases ex with
         | normal =>
           obtain⟨t,e',rfl,rfl,hk⟩:=hc;simp only[OV]at hk;split at hk
           . rename_i vs wy;exact xW _ vs _ wy ⟨_,_,lH.refl _ _,e',rfl,hk⟩
           . cases hk
         | ret =>
           obtain⟨t,e',rfl,rfl,hk⟩:=hc;simp only[OV]at hk;split at hk
           . rename_i vs wy;exact xW _ vs _ wy ⟨_,_,lH.refl _ _,e',rfl,hk⟩
           . cases hk
         | panic x =>
           obtain⟨e',rfl,hk⟩:=hc;exact⟨e',rfl,hk⟩
         | exit id =>
           obtain⟨t,e',rfl,rfl,hk⟩:=hc;cases hk
       . cases h
     . cases h
theorem lE (e:ES) (b:Nat) (l:List AV):(bK e).bM b l=bK (e.set b (.box l)):=(kZ e b _).symm
theorem DY (hV:o9 V) {ev:rS} (he:te V ev):vM V (qA V ev):=λ f args e k h=>by
 simp only[qA]at h;cases Wi:V.tr f with
 | false=>rw[Wi]at h; exact DX hV he f args e k h
 | true =>
   rw[Wi]at h;simp only[cond_true]at h;split at h
   . rename_i r g first cap
     rw[bV]at h;obtain⟨qY,h⟩:=h;refine hV.tr f Wi r g first cap _ _ qY λ a b c ha hb hc=>?_
     have ea:=qL ha;subst ea;rw[<- pw]at hb hc ⊢;have eb:=qL hb;subst eb;rw[<- pw]at hc ⊢;have ec:=qL hc;subst ec;rw[<- pw];refine (DX hV he g _ _ _ h).mono ?_;rintro r U ⟨e',rfl,hk⟩;cases r with
     | ret v =>
       simp only[FX]at hk;split at hk
       . rename_i x y z h1 h2 h3;rw[bV]at hk;refine⟨hk.1,⟨x,h1⟩,⟨y,h2⟩,⟨z,h3⟩,?_⟩;rw[lE,lE,lE];exact⟨_,rfl,hk.2⟩
       . cases hk
     | panic x =>
       simp only[FX]at hk;split at hk
       . rename_i t at_ x y z h1 h2 h3;simp only[bV]at hk;have ht:=dF hk.1;subst ht;refine⟨at_,rfl,⟨x,h1⟩,⟨y,h2⟩,⟨z,h3⟩,λ q hq=>?_⟩;have eq:=qL hq;subst eq;rw[<- pw,lE,lE,lE];exact⟨_,rfl,hk.2⟩
       . cases hk
   . cases h
theorem rN (f:Nat->AV):∀ (n:Nat) (t:T AV) (i:Nat),(px f n t).get i=if i<n then some (f i) else t.get i
 | 0,t,i=>by simp[px]
 | n+1,t,i=>by
   simp only[px];rw[rN f n,T.qM]
   by_cases h:i<n
   . rw[if_pos h,if_pos (by omega)]
   . rw[if_neg h]
     by_cases e:i=n
     . subst e; simp
     . rw[if_neg e,if_neg (by omega)]
end
end Go.Rip
namespace Go.Rip
open Go.RowKit
theorem bo.env {C:ck} {nt:Nat} {ro:Ro} {c:Code} {Q:Ex->Env->St->Prop} {ρ de:Env} {U:St} (h1:∀ t,t<nt->de.get t=ρ.get t) (h2:∀ t,nt<=t->de.get t=.aQ []) (h:bo C nt ro c Q de U):bo C nt ro c Q ρ U:=by
 intro g w a fr k1 k2 k3 k4 k5;refine h g w a fr k1 k2 (λ t=>?_) k4 k5
 by_cases ht:t<nt
 . rw[h1 t ht]; exact k3 t
 . rw[h2 t (by omega)];have:a.tmps.getD t undef=undef:=by
    rw[Array.getD_eq_getD_getElem?,uY (by omega)]; rfl
   rw[this]; exact sy
section
variable {V:gd}
theorem OE (hV:o9 V) {ev:rS} (he:te V ev):xE V (uc V ev):=λ o args e k h=>by
 simp only[uc]at h;split at h
 . rename_i L hL;simp only[bV]at h;obtain⟨⟨h1,h2⟩,h3⟩:=h;refine kh.Fj hL (dF h1) (λ t ht=>?_) ?_
   . rw[eH]at h2;have:=h2 t ht;simpa [Nat.blt_eq] using this
   . have h4:=he _ _ _ _ _ _ _ _ h3;refine bo.env (de:=dS (px (uW L.ρ L.params.toList args) L.nt .e)) (λ t ht=>?_) (λ t ht=>?_) ?_
     . simp only[dS]; rw[rN,if_pos ht]; rfl
     . simp only[dS]; rw[rN,if_neg (by omega)]; rfl
     . refine h4.mono ?_;intro ex ρ U hc;cases ex with
       | normal =>
         obtain⟨t,e',rfl,rfl,hk⟩:=hc;dsimp only at hk;split at hk
         . rename_i L' Hh;simp only[bV]at hk;refine⟨L',Hh,?_,?_⟩
           . have:=hk.1;cases hs:L'.state<;>rw[hs]at this<;>first
              | rfl
              | (simp[isReady]at this)
           . have h5:=he _ _ _ _ _ _ _ _ hk.2;rw[kZ]at h5;refine h5.mono ?_;intro ex ρ U yw;cases ex with
             | normal =>
               obtain⟨t',e2,rfl,rfl,fy⟩:=yw;simp only[endRound]at fy;split at fy
               . rename_i L2 KO; exact⟨L2,KO,_,(kZ _ _ _).symm,fy⟩
               . cases fy
             | ret =>
               obtain⟨t',e2,rfl,rfl,fy⟩:=yw;simp only[endRound]at fy;split at fy
               . rename_i L2 KO; exact⟨L2,KO,_,(kZ _ _ _).symm,fy⟩
               . cases fy
             | exit id =>
               obtain⟨t',e2,rfl,rfl,fy⟩:=yw;simp only[endRound]at fy;split at fy
               . rename_i L2 KO; exact⟨L2,KO,_,(kZ _ _ _).symm,fy⟩
               . cases fy
             | panic x =>
               obtain⟨e2,rfl,fy⟩:=yw;simp only[endRound]at fy;split at fy<;>cases fy
         . cases hk
       | exit id=>obtain⟨t,e',rfl,rfl,hk⟩:=hc; cases hk
       | ret=>obtain⟨t,e',rfl,rfl,hk⟩:=hc; cases hk
       | panic x=>obtain⟨e',rfl,hk⟩:=hc; cases hk
 . cases h
theorem O0 (hV:o9 V) (n:Nat) (ihs:∀ m,m<n->te V (lT V m)):te V (lT V n):=by
 cases n with
 | zero=>intro nt mu tag ro c ρ e k h; cases h
 | succ n =>
   intro nt mu tag ro c ρ e k h;have ih:=ihs n (Nat.lt_succ_self n);have hf:=DY hV ih;have hy:=OE hV ih
   by_cases hl:∃ a,c=.loop a
   . obtain⟨a,rfl⟩:=hl;refine bo.loop (λ j ρ U=>j<=n+1/\∃ t e,ρ=dS t/\U=bK e/\lT V j nt mu tag ro (.loop a) t e k=true) (n:=n+1) ⟨cN _,ρ,e,rfl,rfl,h⟩ ?_;rintro j de ad ⟨hj,t,e',rfl,rfl,hk⟩;cases j with
     | zero=>cases hk
     | succ j =>
       simp only[lT]at hk;refine (ihs j (by omega) _ _ _ _ _ _ _ _ hk).mono ?_;intro ex o5 bI hc;cases ex with
       | normal =>
         obtain⟨t2,e2,rfl,rfl,fy⟩:=hc;exact⟨j,Nat.lt_succ_self j,by omega,t2,e2,rfl,rfl,fy⟩
       | exit id=>exact hc
       | ret=>exact hc
       | panic x=>exact hc
   simp only[lT]at h;split at h
   . exact bo.skip ⟨ρ,e,rfl,rfl,h⟩
   . exact bo.exit ⟨ρ,e,rfl,rfl,h⟩
   . exact bo.ret ⟨ρ,e,rfl,rfl,h⟩
   . rename_i a b;refine bo.seq ((ih _ _ _ _ _ _ _ _ h).mono ?_);intro ex de ad hc;cases ex with
     | normal =>
       obtain⟨t,e',rfl,rfl,hk⟩:=hc;exact ih _ _ _ _ _ _ _ _ hk
     | exit id=>exact hc
     | ret=>exact hc
     | panic x=>exact hc
   . rename_i x a b;split at h
     . rename_i hc; exact bo.YA hc (ih _ _ _ _ _ _ _ _ h)
     . rename_i hc; exact bo.Yz hc (ih _ _ _ _ _ _ _ _ h)
     . cases h
   . rename_i id a;refine bo.block ((ih _ _ _ _ _ _ _ _ h).mono ?_);intro ex de ad hc;cases ex with
     | normal=>exact hc
     | exit yD =>
       obtain⟨t,e',rfl,rfl,hk⟩:=hc;simp only[vT];dsimp only at hk;split
       . rename_i hid;subst hid;rw[Nat.beq_refl,cond_true]at hk;exact⟨t,e',rfl,rfl,hk⟩
       . rename_i hid;rw[wO hid,cond_false]at hk;exact⟨t,e',rfl,rfl,hk⟩
     | ret=>exact hc
     | panic x=>exact hc
   . rename_i a;exact (hl ⟨a,rfl⟩).elim
   . rename_i id ops;simp only[bV]at h;refine bo.region mu h.1 (sr ?_ ?_ _ (y0 hf hy _ _ _ h.2))
     . rintro de ad ⟨t,e',rfl,rfl,hk⟩;exact⟨t,e',rfl,rfl,hk⟩
     . rintro v ad ⟨e',rfl,hk⟩ de;exact⟨e',rfl,hk⟩
   . rename_i id ops;split at h
     . simp only[bV]at h;refine bo.qG mu _ _ hV.mixed h.1.1 (by rw[bV]; exact h.1.2) (gO ?_ ?_ _ (l9 hV hf hy _ _ _ h.2))
       . rintro de ad ⟨t,e',rfl,rfl,hk⟩;exact⟨t,e',rfl,rfl,hk⟩
       . rintro v ad ⟨e',rfl,hk⟩ de;exact⟨e',rfl,hk⟩
     . rename_i rows cI I post _;simp only[bV]at h;have Rh:∀ v U,kA (λ x e=>k (.panic x) .e e) v U->vp (kC k) v U:=by
        rintro v ad ⟨e',rfl,hk⟩ de;exact⟨e',rfl,hk⟩
       refine bo.Ml (B:=preB V mu e ops.toList ρ []) (mu:=mu) cI I post hV.mixed h.1 (GL h.2.1) (gO ?_ Rh _ (l9 hV hf hy _ _ _ h.2.2));rintro de ad ⟨t,e',rfl,rfl,hk⟩;obtain⟨yD,q1,q2,q3,t2,e2,q4,q5,q6⟩:=SW t e' hk;refine⟨yD,q1,q2,q3,?_⟩;have key:=gO (K':=KQ (kC k)) (by
        rintro o5 bI ⟨t3,e3,rfl,rfl,hk⟩;exact⟨t3,e3,rfl,rfl,hk⟩) Rh _ (l9 hV hf hy _ _ _ q6)
       rw[<- q4,<- q5]at key;exact key
   . rename_i f ps assign body;split at h
     . rename_i ir first cap hfn
       simp only[bV]at h;refine bo.rangeFunc tag hfn h.1 λ o ho=>?_;have:=qL ho;subst this;rw[<- pw];refine (hf _ _ _ _ h.2).mono ?_;rintro r U ⟨e',rfl,hk⟩;cases r with
       | ret v =>
         simp only[D5]at hk;split at hk
         . rename_i L hL;simp only[bV,Bool.not_eq_true']at hk;refine⟨L,hL,λ hb=>?_,?_⟩
           . rw[hb]at hk; simp[Lo]at hk
           . have fy:=hk.2;rw[<- zy];split at fy
             . rename_i hp; try rw[hp]
               exact⟨_,_,rfl,rfl,fy⟩
             . rename_i hp; try rw[hp]
               exact⟨_,_,rfl,rfl,fy⟩
             . rename_i id hp; try rw[hp]
               exact⟨_,_,rfl,rfl,fy⟩
             . cases fy
         . cases hk
       | panic x=>exact⟨e',rfl,hk⟩
     . cases h
   . cases h
theorem Va (hV:o9 V) (n:Nat):te V (lT V n):=by
 induction n using Nat.strongRecOn with
 | _ n ih=>exact O0 hV n ih
theorem Vb {V:gd} (hV:o9 V) (n f:Nat) (args:List AV) (e:ES) (k:KR) (h:qA V (lT V n) f args e k=true):ae V.C f args (bK e) (kR k):=DY hV (Va hV n) f args e k h
end
end Go.Rip
namespace Go.Rip
open Go.RowKit
mutual
def closed:AV->Bool
 | .box _ _|.ms _ _ _ _ _|.mp _|.qf _|.it _=>false
 | .vec _ (.own _) _=>false
 | .vec _ _ l=>bG l
 | .ca l=>bG l
 | .eD ks vs=>bG ks&&bG vs
 | .func _ a b=>bG a&&bG b
 | .iface _ v=>closed v
 | .agg l=>bG l
 | .aQ l=>bG l
 | _=>true
def bG:List AV->Bool
 | []=>true
 | x::xs=>closed x&&bG xs
end
mutual
theorem av.closed {g g':Gh} (hi:∀ b o x,g.bT b o=some x->g'.bT b o=some x) (hm:∀ b x,g.bL b=some x->g'.bL b=some x):∀ (x:AV) (v:Value),closed x=true->av g x v->av g' x v
 | .bool _,_,_,hr=>hr
 | .int _ _,_,_,hr=>hr
 | .str _,_,_,hr=>hr
 | .aU,_,_,hr=>hr
 | .ag,_,_,hr=>hr
 | .ji,_,_,hr=>hr
 | .c6,_,_,hr=>hr
 | .cS,_,_,hr=>hr
 | .box _ _,_,hc,_=>by cases hc
 | .ms _ _ _ _ _,_,hc,_=>by cases hc
 | .mp _,_,hc,_=>by cases hc
 | .qf _,_,hc,_=>by cases hc
 | .it _,_,hc,_=>by cases hc
 | .ca l,_,hc,hr=>by
   simp only[av]at hr ⊢;obtain⟨aE,off,vs,hv,h1,h2⟩:=hr;exact⟨aE,off,vs,hv,λ i u hu=>hi _ _ _ (h1 i u hu),aC.closed hi hm l vs hc h2⟩
 | .vec n cap l,_,hc,hr=>by
   simp only[av]at hr ⊢;obtain⟨aE,off,c,vs,hv,h1,h2,h3,h4,h5⟩:=hr;cases cap with
   | own τ=>cases hc
   | full=>exact⟨aE,off,c,vs,hv,h1,h2,h3,λ i u hu=>hi _ _ _ (h4 i u hu),aC.closed hi hm l vs hc h5⟩
   | eR=>exact⟨aE,off,c,vs,hv,h1,h2,trivial,λ i u hu=>hi _ _ _ (h4 i u hu),aC.closed hi hm l vs hc h5⟩
 | .eD ks vs,_,hc,hr=>by
   simp only[av]at hr ⊢;simp only[Go.Rip.closed,bV]at hc;obtain⟨r,es,c,l,hv,he,hp,hs,h1,h2⟩:=hr;exact⟨r,es,c,l,hv,hm _ _ he,hp,hs,aC.closed hi hm ks _ hc.1 h1,aC.closed hi hm vs _ hc.2 h2⟩
 | .func fn first captured,_,hc,hr=>by
   simp only[av]at hr ⊢;simp only[Go.Rip.closed,bV]at hc;obtain⟨fs,cs,hv,h1,h2⟩:=hr;exact⟨fs,cs,hv,aC.closed hi hm first _ hc.1 h1,aC.closed hi hm captured _ hc.2 h2⟩
 | .iface t x,_,hc,hr=>by
   simp only[av]at hr ⊢;obtain⟨u,hv,h1⟩:=hr;exact⟨u,hv,av.closed hi hm x _ hc h1⟩
 | .agg l,_,hc,hr=>by
   simp only[av]at hr ⊢;obtain⟨vs,hv,h0,h1⟩:=hr;exact⟨vs,hv,h0,aC.closed hi hm l _ hc h1⟩
 | .aQ l,_,hc,hr=>by
   simp only[av]at hr ⊢;obtain⟨vs,hv,h1⟩:=hr;exact⟨vs,hv,aC.closed hi hm l _ hc h1⟩
 | .any,_,_,_=>by simp only[av]
theorem aC.closed {g g':Gh} (hi:∀ b o x,g.bT b o=some x->g'.bT b o=some x) (hm:∀ b x,g.bL b=some x->g'.bL b=some x):∀ (l:List AV) (vs:List Value),bG l=true->aC g l vs->aC g' l vs
 | [],_,_,hr=>by simpa only[aC] using hr
 | x::xs,_,hc,hr=>by
   simp only[aC]at hr ⊢;simp only[bG,bV]at hc;obtain⟨u,us,hv,h1,h2⟩:=hr;exact⟨u,us,hv,av.closed hi hm x _ hc.1 h1,aC.closed hi hm xs _ hc.2 h2⟩
end
def resolve:Nat->St->AV->AV
 | 0,_,_=>.any
 | n+1,U,x=>match x with
   | .box b off=>match U.box b with
     | some l=>.ca ((l.map (resolve n U)).drop off)
     | none=>.any
   | .ms b off k _ _=>match U.box b with
     | some l=>.vec k .eR ((l.map (resolve n U)).drop off)
     | none=>.any
   | .mp m=>match U.mp m with
     | some (ks,vs)=>.eD ks (vs.map (resolve n U))
     | none=>.any
   | .vec k .full l=>.vec k .full (l.map (resolve n U))
   | .vec k _ l=>.vec k .eR (l.map (resolve n U))
   | .ca l=>.ca (l.map (resolve n U))
   | .eD ks vs=>.eD ks (vs.map (resolve n U))
   | .func f a b=>.func f (a.map (resolve n U)) (b.map (resolve n U))
   | .iface t v=>.iface t (resolve n U v)
   | .agg l=>.agg (l.map (resolve n U))
   | .aQ l=>.aQ (l.map (resolve n U))
   | .qf _|.it _=>.any
   | x=>x
noncomputable def Gh.all (g:Gh) (w:World):Gh :=
 { g with
  bT:=λ q o=>if g.base<=q then (match w.cell? ⟨q,o,none⟩ with|some u=>if u.oneCell'=true then some u else none|none=>none) else g.bT q o
  bL:=λ q=>if g.base<=q then (match w.heap[q]? with|some (.map es c)=>if h:(open Classical in decide (iZ es c))=true then some (es,c) else none|_=>none) else g.bL q }
theorem GZ {g:Gh} {w:World} {q o:Nat} {u:Value} (hq:g.base<=q) (hc:w.cell? ⟨q,o,none⟩=some u) (h1:u.oneCell'=true):(g.all w).bT q o=some u:=by
 show (if _ then _ else _)=_
 rw[if_pos hq,hc]; simp[h1]
theorem DO {g:Gh} {w:World} {q:Nat} {es:Array MapEntry} {c:Nat} (hq:g.base<=q) (hc:w.heap[q]?=some (.map es c)) (h1:iZ es c):(g.all w).bL q=some (es,c):=by
 show (if _ then _ else _)=_
 rw[if_pos hq,hc]; simp[h1]
theorem aY.Al {g:Gh} {U:St} {w:World} (h:aY g U w):Gh.Le g (g.all w):=by
 refine⟨rfl,rfl,λ _ _ h=>h,λ b o x hx=>?_,λ b x hx=>?_,λ _ h=>h,λ b o hb=>?_,λ b hb=>?_⟩
 . by_cases hq:g.base<=b
   . exact GZ hq (h.bT _ _ _ hx).1 (h.bT _ _ _ hx).2
   . show (if _ then _ else _)=_
     rw[if_neg hq]; exact hx
 . by_cases hq:g.base<=b
   . exact DO hq (h.bL _ _ _ hx).1 (h.bL _ _ _ hx).2
   . show (if _ then _ else _)=_
     rw[if_neg hq]; exact hx
 . show (if _ then _ else _)=_
   rw[if_neg (by omega)]
 . show (if _ then _ else _)=_
   rw[if_neg (by omega)]
theorem uh {g:Gh} {U:St} {w:World} (h:aY g U w) (q o:Nat) (u:Value) (hu:(g.all w).bT q o=some u):w.cell? ⟨q,o,none⟩=some u/\u.oneCell'=true:=by
 have hu:(if g.base<=q then (match w.cell? ⟨q,o,none⟩ with|some u=>if u.oneCell'=true then some u else none|none=>none) else g.bT q o)=some u:=hu
 split at hu
 . split at hu
   . rename_i x hx;split at hu
     . cases hu; exact⟨hx,by assumption⟩
     . cases hu
   . cases hu
 . exact h.bT _ _ _ hu
theorem sH {g:Gh} {U:St} {w:World} (h:aY g U w) (q:Nat) (es:Array MapEntry) (c:Nat) (hu:(g.all w).bL q=some (es,c)):w.heap[q]?=some (.map es c)/\iZ es c:=by
 have hu:(if g.base<=q then (match w.heap[q]? with|some (.map es c)=>if h:(open Classical in decide (iZ es c))=true then some (es,c) else none|_=>none) else g.bL q)=some (es,c):=hu
 split at hu
 . split at hu
   . rename_i tj c' hx;split at hu
     . rename_i hb;cases hu; exact⟨hx,by simpa using hb⟩
     . cases hu
   . cases hu
 . exact h.bL _ _ _ hu
theorem zo {g g':Gh} {f:AV->AV}:∀ {l:List AV} {vs:List Value},(∀ x v,x∈l->av g x v->av g' (f x) v)->aC g l vs->aC g' (l.map f) vs
 | [],_,_,h=>by simpa only[aC,lO] using h
 | x::xs,_,hf,h=>by
   simp only[aC,dY]at h ⊢;obtain⟨u,us,hv,h1,h2⟩:=h;exact⟨u,us,hv,hf x u (by simp) h1,zo (λ y v hy=>hf y v (by simp[hy])) h2⟩
theorem yL {g:Gh} {U:St} {w:World} (h:aY g U w):∀ (n:Nat) (x:AV) (v:Value),av g x v->av (g.all w) (resolve n U x) v:=by
 intro n
 induction n with
 | zero=>intro x v _; simp only[resolve,av]
 | succ n ih =>
   intro x v hr;have hl:=h.Al;have rh:∀ {l:List AV} {vs:List Value},aC g l vs->aC (g.all w) (l.map (resolve n U)) vs:=λ h=>zo (λ y v _ hy=>ih y v hy) h;have hi:∀ {aE off:Nat} {vs:List Value},jD g aE off vs->jD (g.all w) aE off vs:=λ h=>h.mono hl;have box:∀ {b off:Nat} {l:List AV} {p:Place},U.box b=some l->g.place b=some p->∃ vs,jD (g.all w) p.aE off vs/\aC (g.all w) ((l.map (resolve n U)).drop off) vs:=λ {b off l p} hb hp=>by
    obtain⟨x',cur,vs,rest,k1,k2,k3,k4,k5,k6,k7,k8⟩:=h.box b l hb;have k1:g.place b=some x':=k1;rw[hp]at k1; cases k1;refine⟨vs.drop off,λ i u hu=>?_,(rh k6).drop off⟩;rw[List.getElem?_drop]at hu;have aL:off+i<vs.length:=by
     rcases gI (off+i) vs.length with h|h
     . exact h
     . simp[rE h]at hu
    have hc:cur[off+i]?=some u:=by rw[<- jm,k5,rF aL]; exact hu
    exact GZ k2 (by rw[cell_of_row _ _ _ cur p.e (0,0) k3]; exact hc) (k7 u (gA (by rw[jm]; exact hc)))
   cases x with
   | box b off =>
     simp only[resolve];cases hb:U.box b with
     | none=>simp only[av]
     | some l =>
       simp only[av]at hr ⊢;obtain⟨p,hp,rfl⟩:=hr;obtain⟨vs,h1,h2⟩:=box (off:=off) hb hp;exact⟨p.aE,off,vs,rfl,h1,h2⟩
   | ms b off k gy e =>
     simp only[resolve];cases hb:U.box b with
     | none=>simp only[av]
     | some l =>
       simp only[av]at hr ⊢;obtain⟨p,c,hp,rfl,q1,q2,_⟩:=hr;obtain⟨vs,h1,h2⟩:=box (off:=off) hb hp;exact⟨p.aE,off,c,vs,rfl,q1,q2,trivial,h1,h2⟩
   | mp m =>
     simp only[resolve];cases hm:U.mp m with
     | none=>simp only[av]
     | some kv =>
       obtain⟨ks,vs⟩:=kv;simp only[av]at hr ⊢;obtain⟨r,hr,rfl⟩:=hr;obtain⟨r',es,clock,q1,q2,q3,qb,⟨l,q4,q5,q6,q7⟩,q8⟩:=h.mp m _ hm;rw[hr]at q1; cases q1;exact⟨r,es,clock,l,rfl,DO q2 q3 qb,q4,q5,q6.mono hl,rh q7⟩
   | vec k c l =>
     simp only[av]at hr;obtain⟨aE,off,c',vs,rfl,h1,h2,h3,h4,h5⟩:=hr;cases c with
     | full=>simp only[resolve,av]; exact⟨aE,off,c',vs,rfl,h1,h2,h3,hi h4,rh h5⟩
     | own τ=>simp only[resolve,av]; exact⟨aE,off,c',vs,rfl,h1,h2,trivial,hi h4,rh h5⟩
     | eR=>simp only[resolve,av]; exact⟨aE,off,c',vs,rfl,h1,h2,trivial,hi h4,rh h5⟩
   | ca l =>
     simp only[resolve,av]at hr ⊢;obtain⟨aE,off,vs,rfl,h1,h2⟩:=hr;exact⟨aE,off,vs,rfl,hi h1,rh h2⟩
   | eD ks vs =>
     simp only[resolve,av]at hr ⊢;obtain⟨r,es,c,l,rfl,he,hp,hs,h1,h2⟩:=hr;exact⟨r,es,c,l,rfl,hl.bL _ _ he,hp,hs,h1.mono hl,rh h2⟩
   | func f a b =>
     simp only[resolve,av]at hr ⊢;obtain⟨fs,cs,rfl,h1,h2⟩:=hr;exact⟨fs,cs,rfl,rh h1,rh h2⟩
   | iface t x =>
     simp only[resolve,av]at hr ⊢;obtain⟨u,rfl,h1⟩:=hr;exact⟨u,rfl,ih _ _ h1⟩
   | agg l =>
     simp only[resolve,av]at hr ⊢;obtain⟨vs,rfl,h0,h1⟩:=hr;exact⟨vs,rfl,h0,rh h1⟩
   | aQ l =>
     simp only[resolve,av]at hr ⊢;obtain⟨vs,rfl,h1⟩:=hr;exact⟨vs,rfl,rh h1⟩
   | qf o=>simp only[resolve,av]
   | it o=>simp only[resolve,av]
   | any=>simp only[resolve,av]
   | bool b=>simp only[resolve]; exact hr.mono hl
   | int k n=>simp only[resolve]; exact hr.mono hl
   | str s=>simp only[resolve]; exact hr.mono hl
   | aU=>simp only[resolve]; exact hr.mono hl
   | ag=>simp only[resolve]; exact hr.mono hl
   | ji=>simp only[resolve]; exact hr.mono hl
   | c6=>simp only[resolve]; exact hr.mono hl
   | cS=>simp only[resolve]; exact hr.mono hl
theorem Pure.xT {C:ck} {f:Nat} {args:List AV} {x:AV} (Aa:∀ i,closed (C.wh i)=true) (hargs:bG args=true) (hx:closed x=true) (d:Nat)
 (h:ae C f args (bK ⟨.e,0⟩) (λ r U=>∃ v,r=.ret v/\resolve d U v=x)):Pure C f args x:=by
 intro U R hR g w vs hs hG ha;let g0:Gh:={ base:=w.heap.size,w0:=w,place:=λ _=>none,bT:=g.bT,bL:=g.bL,res:=λ _=>false };have rj:aY g0 (bK ⟨.e,0⟩) w:={
  below:=Below.refl _ _
  le:=cN _
  bT:=hs.bT
  bL:=hs.bL
  live:=λ b x hb=>by cases hb
  apart:=λ b b' x x' p p' hb=>by cases hb
  res:=λ r hr=>by cases hr
  fin:=⟨0,λ n hn=>by cases hn; rfl,λ _ _=>rfl⟩ }
 have KN:fQ C g0:=⟨λ i=>av.closed (g:=g) (g':=g0) (λ _ _ _ h=>h) (λ _ _ h=>h) _ _ (Aa i) (hG.1 i),λ i cs hi=>by
  obtain⟨k1,t,fr,k2⟩:=hG.2 i cs hi;refine⟨Nat.lt_of_lt_of_le k1 hs.le,t,fr,?_⟩;show w.heap[i]?=_;rw[hs.below.block i k1]; exact k2⟩
 have Vs:aC g0 args vs:=aC.closed (g:=g) (g':=g0) (λ _ _ _ h=>h) (λ _ _ h=>h) _ _ hargs ha;refine (h g0 w vs rj KN Vs).mono ?_;rintro e w' hp;cases e with
 | panicked ch=>obtain⟨g',ad,y,v,_,_,_,_,z,hz,_⟩:=hp; cases hz
 | outgrown=>exact hp.elim
 | returned v =>
   obtain⟨g',ad,y,h1,h2,h3,z,hz,hres⟩:=hp;cases hz;have b0:=yL h2 d y v h3;rw[hres]at b0;have ra:=h2.Al;have hle:=h1.trans ra;have adj:g'.base=w.heap.size:=h1.base;have uw:Below w.heap.size w w':=by
    have:=h2.below;rw[h1.base,h1.w0]at this;exact this
   let gF:Gh:={ base:=g.base,w0:=g.w0,place:=g.place,bT:=(g'.all w').bT,bL:=(g'.all w').bL,res:=g.res };have Eu:Gh.Le g gF:=⟨rfl,rfl,λ _ _ h=>h,λ b o u hu=>hle.bT b o u hu,λ b u hu=>hle.bL b u hu,λ _ h=>h,
    λ b o hb=>hle.wC b o (by show b<w.heap.size; have:=hs.le; omega),λ b hb=>hle.tD b (by show b<w.heap.size; have:=hs.le; omega)⟩
   refine⟨gF,U,x,Eu,?_,av.closed (g:=g'.all w') (g':=gF) (λ _ _ _ h=>h) (λ _ _ h=>h) x v hx b0,hR⟩;exact {
    below:=hs.below.trans (uw.mono hs.le)
    le:=Nat.le_trans hs.le uw.size
    bT:=λ q o u hu=>uh h2 q o u hu
    bL:=λ q es c hu=>sH h2 q es c hu
    live:=λ b l hb=>by
     obtain⟨p,k1,k2,k3⟩:=hs.live b l hb;have aL:=k3.lt;exact⟨p,k1,k2,k3.frame Eu.r (uw.block _ aL) (λ o=>hle.wC _ o aL) (hle.tD _ aL)⟩
    apart:=hs.apart
    res:=λ r hr=>by
     obtain⟨k1,k2⟩:=hs.res r hr;exact⟨k1,by rw[uw.block _ (jl.1 k2).1]; exact k2⟩
    fin:=hs.fin }
def Y4 (d:Nat) (x:AV):KR
 | .ret v,e=>gG (resolve d (bK e) v) x
 | .panic _,_=>false
theorem Pure.dX {V:gd} (hV:o9 V) (n d:Nat) {f:Nat} {args:List AV} {x:AV} (Aa:∀ i,closed (V.C.wh i)=true) (h:(bG args&&closed x&&qA V (lT V n) f args ⟨.e,0⟩ (Y4 d x))=true):Pure V.C f args x:=by
 simp only[bV]at h;refine Pure.xT Aa h.1.1 h.1.2 d ((Vb hV n f args ⟨.e,0⟩ _ h.2).mono ?_);rintro r U ⟨e,rfl,hk⟩;cases r with
 | ret v=>exact⟨v,rfl,ti hk⟩
 | panic v=>cases hk
end Go.Rip
namespace Go.Rip
open Go.RowKit
def Q0 (R:St->Prop):Ex->Env->St->Prop
 | .normal,_,U=>R U
 | .ret,_,U=>R U
 | _,_,_=>False
theorem Tu {C:ck} {f:FuncId} {fn:Func} {id:Nat} {o:Oper} {d:Nat} {rest:Code} {args:List AV} {U:St} {g:Gh} {w:World} {vs:List Value}
 (hf:C.P.funcs[f]?=some fn) (hb:fn.body=some (.seq (.region id #[o] false) rest)) (hres:fn.results=#[]) (hop:∀ ev w,(execOp ev o).run C.P w=.ok .recover w) (hd:o.dst=some d) (hdn:d<fn.ntmps) (hg:o.guard=none)
 (hlen:args.length<=fn.ntmps) (hs:aY g U w) (hG:fQ C g) (ha:aC g args vs) {x:AV} {v:Value} {u u':FrameMode} (hx:av g x v)
 (hu:(u=.returning/\v=.nilIface/\u'=.returning)\/(u=.panicking [{ v,recovered:=false }]/\u'=.panicking [{ v,recovered:=true }])) (R:St->Prop)
 (h:bo C fn.ntmps .bare rest (Q0 R) ((Env.gU args).put d x) U) :
 CallsDIn Fence.wide 0 C.P f vs.toArray u w (λ e u2 w'=>∃ v',e=.returned v'/\u2=u'/\∃ g' ad,Gh.Le g g'/\aY g' ad w'/\R ad):=by
 refine callsDIn_of_wpSIn hf hb trivial λ D2 cs hm=>?_;refine wpSIn_seq (wpSIn_region ?_);have hl:=ha.length;have hsz:(vs.toArray++Array.replicate (fn.ntmps-vs.toArray.size) undef).size=fn.ntmps:=by simp; omega
 have Bs:fj g (Env.gU args) (vs.toArray++Array.replicate (fn.ntmps-vs.toArray.size) undef):=yW args vs _ ha;have aaO:=Bs.put (d:=d) (by rw[hsz]; exact hdn) hx;have after:∀ zO,(zO={ D2 with mode:=u' }::cs)->rest.wpSIn Fence.wide 0 C.P (bodyPostS C.P fn D2 cs λ e u2 w'=>∃ v',e=.returned v'/\u2=u'/\∃ g' ad,Gh.Le g g'/\aY g' ad w'/\R ad)
  (Act.put { tmps:=vs.toArray++Array.replicate (fn.ntmps-vs.toArray.size) undef,defers:=[] } o.dst v) zO w:=λ zO tu=>by
  refine wpSIn_of_wpIn rfl ?_;have:=h g w (Act.put { tmps:=vs.toArray++Array.replicate (fn.ntmps-vs.toArray.size) undef,defers:=[] } o.dst v) none hs hG (by rw[hd]; exact aaO) (by rw[(mi _ _ _).2]; exact hsz) trivial;refine wpIn_mono this ?_;rintro e a w' ⟨q1,g',ad,de,ms,q2,q3,q4,q5,q6,q7⟩;have wu:ms=[]:=q3.none rfl;subst wu;rw[(mi _ _ _).1]at q2;simp only[lO,iK]at q2;have hr:∀ tmps,(results fn tmps).run C.P w'=.ok (.tuple #[]) w':=λ tmps=>by
   unfold results;rw[hres];simp
  cases e with
  | normal=>exact⟨q2,u',tu,_,hr _,_,rfl,rfl,g',ad,q4,q5,q7⟩
  | ret=>exact⟨q2,u',tu,_,hr _,_,rfl,rfl,g',ad,q4,q5,q7⟩
  | exit id=>exact q7.elim
  | panic ch=>obtain⟨_,_,_,_,hf⟩:=q7; exact hf.elim
  | goto l=>exact q7.elim
  | outgrown=>exact q7.elim
 have hw:Region.wanted o (yielded #[o] (vs.toArray++Array.replicate (fn.ntmps-vs.toArray.size) undef))=true:=by simp[Region.wanted,hg]
 show wpOpsSIn Fence.wide 0 C.P #[o] _ [0] _ _ _;simp only[wpOpsSIn,List.getElem?_toArray,List.getElem?_cons_zero,hw,if_true,hop];refine⟨λ _ _=>trivial,?_⟩;rcases hu with ⟨rfl,rfl,rfl⟩|⟨rfl,rfl⟩
 . have e1:recoverD (D2::cs)=none:=by simp[recoverD,hm]
   rw[e1];exact after _ (by rw[<- hm])
 . have e1:recoverD (D2::cs)=some (v,{ D2 with mode:=.panicking [{ v,recovered:=true }] }::cs):=by simp[recoverD,hm]
   rw[e1];exact after _ rfl
end Go.Rip
