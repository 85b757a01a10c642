import Derived.Test.YtnfpmiiopiinbaaGreatDoorA
import Derived.OrdersIn
import Derived.RecoverIn
set_option linter.all false
namespace Go.Rip
open Go.RowKit
inductive bA where
 | ret (x:AV)
 | panic (x:AV)
inductive Ex where
 | normal
 | exit (id:Nat)
 | ret
 | panic (x:AV)
def FW(ro:Option Nat):Fence:={ Fence.wide with round:=ro }
def rN(g:Gh)(R:bA->St->Prop):Ending->World->Prop
 | .returned v,w'=>∃g' aa x,Gh.Le g g'/\bT g' aa w'/\aB g' x v/\R (.ret x) aa
 | .panicked ch,w'=>∃g' aa x v,ch=[{ v,recovered:=false }]/\Gh.Le g g'/\bT g' aa w'/\aB g' x v/\R (.panic x) aa
 | .outgrown,_=>False
def ag(C:dQ)(f:FuncId)(args:List AV)(U:St)(R:bA->St->Prop):Prop :=
 ∀g w vs,bT g U w->kz C g->aJ g args vs->CallsIn Fence.wide 0 C.P f (List.toArray vs) w (rN g R)
def o6(C:dQ)(o:Nat)(args:List AV)(U:St)(R:bA->St->Prop):Prop :=
 ∀g w vs x,bT g U w->kz C g->aJ g args vs->g.place o=some x->∃fn tmps assign body,(Instr.yield x.aR (List.toArray vs)).run C.P w=.ok (.round x.aR fn tmps assign body) w /\
  RoundIn Fence.wide 0 C.P x.aR fn tmps assign body w (rN g R)
variable {R:bA->St->Prop}
def rN.mono{g:Gh}{R':bA->St->Prop}{e:Ending}{w:World}(h:rN g R e w)(hr:∀r U,R r U->R' r U):rN g R' e w:=by
 cases e with
 | returned v=>obtain⟨g',aa,x,h1,h2,h3,h4⟩:=h;exact⟨g',aa,x,h1,h2,h3,hr _ _ h4⟩
 | panicked ch=>obtain⟨g',aa,x,v,h0,h1,h2,h3,h4⟩:=h;exact⟨g',aa,x,v,h0,h1,h2,h3,hr _ _ h4⟩
 | outgrown=>exact h
variable {args:List AV}
def ag.mono{C:dQ}{f:FuncId}{U:St}{R':bA->St->Prop}(h:ag C f args U R)(hr:∀r U,R r U->R' r U):ag C f args U R' :=
 λg w vs hs hG ha=>(h g w vs hs hG ha).mono λ_ _ hp=>hp.mono hr
def o6.mono{C:dQ}{f:Nat}{U:St}{R':bA->St->Prop}(h:o6 C f args U R)(hr:∀r U,R r U->R' r U):o6 C f args U R' :=
 λg w vs x hs hG ha hx=>let ⟨a,b,c,d,e,r⟩:=h g w vs x hs hG ha hx;⟨a,b,c,d,e,r.mono λ_ _ hp=>hp.mono hr⟩
def bD(K:am)(Kp:am):bA->St->Prop
 | .ret x,U=>K x U
 | .panic x,U=>Kp x U
def aW.wp(C:dQ)(U:St)(K:am)(Kp:am):aW->Prop
 | .val v=>K v U
 | .kg v b x=>K v (U.set b x)
 | .new k del x=>∀b,(U.wA del).eO b->K (k.at b) ((U.wA del).new b x)
 | .ov b l=>∀p∈l,K p.1 (U.set b p.2)
 | .enter f args=>ag C f args U (bD K Kp)
 | .yield l args=>o6 C l args U (bD K Kp)
 | .panic v=>Kp v U
 | @aW.cond p _ r=>p/\r.wp C U K Kp
 | .bad=>False
def km(ops:Array Oper)(ρ:Env):Option (Nat×Bool)->AV
 | none=>.bool true
 | some (j,want)=>match (ops[j]?).bind (·.dst) with
   | some d=>match ρ.get d with
     | .bool b=>.bool (b==want)
     | .az []=>.bool false
     | _=>.any
   | none=>.any
def cX:AV->Prop->Prop->Prop
 | .bool b,A,B=>(b->A)/\(b=false->B)
 | _,_,_=>False
def sk(C:dQ)(mu:List Nat)(ops:Array Oper):List Oper->Env->St->(Env->St->Prop)->(am)->Prop
 | [],ρ,U,K,_=>K ρ U
 | o::rest,ρ,U,K,Kp=>cX (km ops ρ o.guard)
    ((mj C (match o.dst with|some d=>mu.contains d|none=>false) o.op ρ U).wp C U (λv aa=>sk C mu ops rest (ρ.ga o.dst v) aa K Kp) Kp)
    (sk C mu ops rest (ρ.ga o.dst (.az [])) U K Kp)
def K6(r:Nat):Deferred:={ target:=.collected r,args:=#[] }
def LK(g:Gh)(Q:Ex->Env->St->Prop)(ρ:Env)(U:St):Exit->Prop
 | .normal=>Q .normal ρ U
 | .exit id=>Q (.exit id) ρ U
 | .ret=>Q .ret ρ U
 | .panic ch=>∃x v,ch=[{ v,recovered:=false }]/\aB g x v/\Q (.panic x) ρ U
 | .goto _=>False
 | .outgrown=>False
inductive Ro where
 | fn
 | bare
 | round (o:Nat)
def Ro.nm:Ro->Bool
 | .bare=>true
 | _=>false
structure rG (nm:Bool) (g g':Gh) (ms:List Nat):Prop where
 none:nm=true->ms=[]
 nodup:ms.Nodup
 res:∀r∈ms,g'.res r/\g.res r=false
def oL(nm:Bool)(g g':Gh):rG nm g g' []:=⟨λ_=>rfl,List.nodup_nil,d8⟩
def rG.append{nm:Bool}{g g1 g2:Gh}{m1 m2:List Nat}(h1:rG nm g g1 m1)(h2:rG nm g1 g2 m2)(l1:Gh.Le g g1)(l2:Gh.Le g1 g2):rG nm g g2 (m2++m1):=by
 refine⟨λh=>by rw[h1.none h,h2.none h];rfl,List.nodup_append.2 ⟨h2.nodup,h1.nodup,λx hx y hy e=>?_⟩,λr hr=>?_⟩
 . subst e;have:=(h2.res x hx).2;rw[(h1.res x hy).1]at this;cases this
 . simp only[gV]at hr;rcases hr with hr|hr
   . refine⟨(h2.res r hr).1,?_⟩;cases e:g.res r with
     | false=>rfl
     | true=>have:=(h2.res r hr).2;rw[l1.res _ e]at this;cases this
   . exact⟨l2.res _ (h1.res r hr).1,(h1.res r hr).2⟩
def um(g:Gh)(nt:Nat)(nm:Bool)(ds:List Deferred)(Q:Ex->Env->St->Prop)(e:Exit)(a:Act)(w:World):Prop :=
 a.tmps.size=nt/\∃g' U ρ ms,a.defers=ms.map K6++ds/\rG nm g g' ms/\Gh.Le g g'/\bT g' U w/\jO g' ρ a.tmps/\LK g' Q ρ U e
def Lj(g:Gh):Ro->Option Nat->Prop
 | .fn,none=>True
 | .bare,none=>True
 | .round o,some l=>∃x,g.place o=some x/\x.aR=l
 | _,_=>False
def Lj.mono{g g':Gh}(h:Gh.Le g g'){ro:Ro}{fr:Option Nat}(hr:Lj g ro fr):Lj g' ro fr:=by
 cases ro<;>cases fr<;>simp only[Lj]at hr ⊢
 obtain⟨x,h1,h2⟩:=hr;exact⟨x,h.place _ _ h1,h2⟩
def cu(C:dQ)(nt:Nat)(ro:Ro)(c:Code)(Q:Ex->Env->St->Prop)(ρ:Env)(U:St):Prop :=
 ∀g w a fr,bT g U w->kz C g->jO g ρ a.tmps->a.tmps.size=nt->Lj g ro fr->c.wpIn (FW fr) 0 C.P (um g nt ro.nm a.defers Q) a w
variable {a:Act}{c x y:Code}{id:Nat}
section
variable {C:dQ}{g:Gh}{U:St}{w:World}{nt:Nat}{nm:Bool}{ro:Ro}{Q:Ex->Env->St->Prop}{ρ:Env}
def LK.mono{Q':Ex->Env->St->Prop}{e:Exit}(h:LK g Q ρ U e)(hq:∀e ρ U,Q e ρ U->Q' e ρ U):LK g Q' ρ U e:=by
 cases e<;>first
  | exact hq _ _ _ h
  | (obtain⟨x,v,h1,h2,h3⟩:=h;exact⟨x,v,h1,h2,hq _ _ _ h3⟩)
  | exact h
def cu.mono{Q':Ex->Env->St->Prop}(h:cu C nt ro c Q ρ U)(hq:∀e ρ U,Q e ρ U->Q' e ρ U):cu C nt ro c Q' ρ U :=
 λg w a fr h1 h2 h3 h4 xV=>wpIn_mono (h g w a fr h1 h2 h3 h4 xV) λe a' w' ⟨k1,g',aa,fI,ms,k2,k3,k4,k5,k6,k7⟩=>⟨k1,g',aa,fI,ms,k2,k3,k4,k5,k6,k7.mono hq⟩
def um.back{g':Gh}{ds:List Deferred}{ms:List Nat}{e:Exit}(h:um g' nt nm (ms.map K6++ds) Q e a w)(Da:rG nm g g' ms)(hle:Gh.Le g g'):um g nt nm ds Q e a w:=by
 obtain⟨k1,g2,aa,fI,MY,k2,k3,k4,k5,k6,k7⟩:=h;exact⟨k1,g2,aa,fI,MY++ms,by rw[k2,List.map_append,lG],Da.append k3 hle k4,hle.trans k4,k5,k6,k7⟩
def ahl(K:Env->St->Prop)(Q:Ex->Env->St->Prop):Ex->Env->St->Prop
 | .normal,ρ,U=>K ρ U
 | e,ρ,U=>Q e ρ U
def cu.seq(h:cu C nt ro x (ahl (λρ U=>cu C nt ro y Q ρ U) Q) ρ U):cu C nt ro (.seq x y) Q ρ U:=by
 intro g w a fr h1 h2 h3 h4 xV;refine wpIn_seq (wpIn_mono (h g w a fr h1 h2 h3 h4 xV) ?_);rintro e a' w' ⟨k1,g',aa,fI,ms,k2,k3,k4,k5,k6,k7⟩;cases e with
 | normal =>
   have:=k7 g' w' a' fr k5 (h2.mono k4) k6 k1 (xV.mono k4);rw[k2]at this;exact wpIn_mono this λe a w hp=>hp.back k3 k4
 | exit id=>exact⟨k1,g',aa,fI,ms,k2,k3,k4,k5,k6,k7⟩
 | ret=>exact⟨k1,g',aa,fI,ms,k2,k3,k4,k5,k6,k7⟩
 | panic ch=>exact⟨k1,g',aa,fI,ms,k2,k3,k4,k5,k6,k7⟩
 | goto l=>exact k7.elim
 | outgrown=>exact k7.elim
def DG{ds:List Deferred}{e:Exit}(h:bT g U w)(hr:jO g ρ a.tmps)(hn:a.tmps.size=nt)(hd:a.defers=ds)(hq:LK g Q ρ U e):um g nt nm ds Q e a w :=
 ⟨hn,g,U,ρ,[],by simpa using hd,oL _ _ _,Gh.Le.refl g,h,hr,hq⟩
def cu.skip(h:Q .normal ρ U):cu C nt ro .skip Q ρ U:=λg w a fr h1 h2 h3 h4 _=>wpIn_skip (DG h1 h3 h4 rfl h)
def cu.exit(h:Q (.exit id) ρ U):cu C nt ro (.exit id) Q ρ U:=λg w a fr h1 h2 h3 h4 _=>wpIn_exit (DG h1 h3 h4 rfl h)
def cu.ret(h:Q .ret ρ U):cu C nt ro .ret Q ρ U:=λg w a fr h1 h2 h3 h4 _=>wpIn_ret (DG h1 h3 h4 rfl h)
def cu.cond{c:Operand}{b:Bool}(hc:ρ.ev C c=.bool b)(h1:b->cu C nt ro x Q ρ U)(h2:b=false->cu C nt ro y Q ρ U):cu C nt ro (.cond c x y) Q ρ U:=by
 intro g w a fr k1 k2 k3 k4 k5;have:=xQ k2 k3 c;rw[hc]at this;simp only[aB]at this;exact wpIn_cond_split this (λe=>h1 e g w a fr k1 k2 k3 k4 k5) (λe=>h2 e g w a fr k1 k2 k3 k4 k5)
def cu.ahZ{c:Operand}(hc:ρ.ev C c=.bool true)(h1:cu C nt ro x Q ρ U):cu C nt ro (.cond c x y) Q ρ U:=cu.cond hc (λ_=>h1) (λh=>by cases h)
def cu.ahY{c:Operand}(hc:ρ.ev C c=.bool false)(h1:cu C nt ro y Q ρ U):cu C nt ro (.cond c x y) Q ρ U:=cu.cond hc (λh=>by cases h) (λ_=>h1)
def CQ(id:Nat)(Q:Ex->Env->St->Prop):Ex->Env->St->Prop
 | .exit Fg,ρ,U=>if Fg=id then Q .normal ρ U else Q (.exit Fg) ρ U
 | e,ρ,U=>Q e ρ U
def cu.block(h:cu C nt ro c (CQ id Q) ρ U):cu C nt ro (.block id c) Q ρ U:=by
 intro g w a fr h1 h2 h3 h4 xV;refine wpIn_block (wpIn_mono (h g w a fr h1 h2 h3 h4 xV) ?_);rintro e a' w' ⟨k1,g',aa,fI,ms,k2,k3,k4,k5,k6,k7⟩;cases e with
 | normal=>exact⟨k1,g',aa,fI,ms,k2,k3,k4,k5,k6,k7⟩
 | exit Fg =>
   have k7:CQ id Q (.exit Fg) fI aa:=k7;simp only[CQ]at k7;simp only[Exit.inBlock];split
   . rename_i e;rw[if_pos e]at k7;exact⟨k1,g',aa,fI,ms,k2,k3,k4,k5,k6,k7⟩
   . rename_i e;rw[if_neg e]at k7;exact⟨k1,g',aa,fI,ms,k2,k3,k4,k5,k6,k7⟩
 | ret=>exact⟨k1,g',aa,fI,ms,k2,k3,k4,k5,k6,k7⟩
 | panic ch=>exact⟨k1,g',aa,fI,ms,k2,k3,k4,k5,k6,k7⟩
 | goto l=>exact k7.elim
 | outgrown=>exact k7.elim
def cu.loop(I:Nat->Env->St->Prop){n:Nat}(h0:I n ρ U)(round:∀n ρ U,I n ρ U->cu C nt ro c (ahl (λfI aa=>∃m,m<n/\I m fI aa) Q) ρ U):cu C nt ro (.loop c) Q ρ U:=by
 intro g w a fr h1 h2 h3 h4 xV;let J:Nat->Act->World->Prop:=λn a' w'=>a'.tmps.size=nt/\∃g' aa fI ms,a'.defers=ms.map K6++a.defers/\rG ro.nm g g' ms/\Gh.Le g g'/\bT g' aa w'/\jO g' fI a'.tmps/\I n fI aa;have ex:∀a' w',(∃n,J n a' w')->∃n,J n a' w'/\∀m,m<n->¬ J m a' w':=λa' w' ⟨n,hn⟩=>by
  induction n using Nat.strongRecOn with
  | _ n ih =>
    by_cases hm:∃m,m<n/\J m a' w'
    . obtain⟨m,Jy,hm2⟩:=hm;exact ih m Jy hm2
    . exact⟨n,hn,λm Jy hm2=>hm ⟨m,Jy,hm2⟩⟩
 classical
 let μ:Act->World->Nat:=λa' w'=>if h:∃n,J n a' w' then (ex a' w' h).choose else 0
 have hμ:∀a' w',(∃n,J n a' w')->J (μ a' w') a' w'/\∀m,m<μ a' w'->¬ J m a' w':=λa' w' h=>by
  have:=(ex a' w' h).choose_spec;simp only[μ,dif_pos h];exact this
 refine wpIn_loop (λa' w'=>∃n,J n a' w') μ ⟨n,h4,g,U,ρ,[],d8,oL _ _ _,Gh.Le.refl g,h1,h3,h0⟩ ?_;intro a' w' hJ;obtain⟨⟨k1,g',aa,fI,ms,k2,k3,k4,k5,k6,k7⟩,_⟩:=hμ a' w' hJ;refine wpIn_mono (round _ fI aa k7 g' w' a' fr k5 (h2.mono k4) k6 k1 (xV.mono k4)) ?_;intro e a2 w2 hp;rw[k2]at hp;have hp:=hp.back k3 k4;obtain⟨q1,g2,aV,uF,MY,q2,q3,q4,q5,q6,q7⟩:=hp;cases e with
 | normal =>
   obtain⟨m,hm,hI⟩:=q7;have hJ2:J m a2 w2:=⟨q1,g2,aV,uF,MY,q2,q3,q4,q5,q6,hI⟩;refine⟨⟨m,hJ2⟩,?_⟩;have:=(hμ a2 w2 ⟨m,hJ2⟩).2;rcases ik (μ a2 w2) (μ a' w') with h|h
   . exact h
   . exact absurd hJ2 (this m d6)
 | exit id=>exact⟨q1,g2,aV,uF,MY,q2,q3,q4,q5,q6,q7⟩
 | ret=>exact⟨q1,g2,aV,uF,MY,q2,q3,q4,q5,q6,q7⟩
 | panic ch=>exact⟨q1,g2,aV,uF,MY,q2,q3,q4,q5,q6,q7⟩
 | goto l=>exact q7.elim
 | outgrown=>exact q7.elim
end
variable {o:Oper}{dst:Option Tmp}
section
variable {C:dQ}{g:Gh}{U:St}{w:World}{nt:Nat}{nm:Bool}{ro:Ro}{fr:Option Nat}{Q:Ex->Env->St->Prop}{ρ:Env}
def FX(nt:Nat)(o:Oper):Bool :=
 (match o.dst with|some d=>decide (d<nt)|none=>true)&&(match o.op with|.defer _=>false|_=>true)
def nW(nt:Nat)(ops:Array Oper):Bool:=ops.toList.all (FX nt)
def EV{ops:Array Oper}(hr:jO g ρ a.tmps){b:Bool}(h:km ops ρ o.guard=.bool b):Region.wanted o (yielded ops a.tmps)=b:=by
 unfold km at h;unfold Region.wanted;cases hg:o.guard with
 | none=>simp[hg]at h;simp[h]
 | some jw =>
   obtain⟨j,want⟩:=jw;simp only[hg]at h ⊢;split at h
   . rename_i d hd;split at h
     . rename_i b' hb;simp only[AV.bool.injEq]at h;subst h;have:=hr d;rw[hb]at this;simp only[aB]at this;have wC:a.tmps[d]?=some (.bool b'):=by
        rw[Array.getD_eq_getD_getElem?]at this;cases ht:a.tmps[d]? with
        | none=>rw[ht]at this;simp[undef]at this
        | some v=>rw[ht]at this;simp at this;rw[this]
       unfold yielded;rw[hd];simp only[Option.bind_some,wC];cases b'<;>cases want<;>rfl
     . rename_i hb;simp only[AV.bool.injEq]at h;subst h;have:=hr d;rw[hb]at this;simp only[aB,aJ]at this;obtain⟨vs,this,rfl⟩:=this;have wC:∀b,a.tmps[d]?≠some (.bool b):=λb fi=>by
        rw[Array.getD_eq_getD_getElem?,fi]at this;simp at this
       unfold yielded;rw[hd];simp only[Option.bind_some]
       first
        | rfl
        | (split
           . rename_i b' fi;exact absurd fi (wC _)
           . rfl)
     . cases h
   . cases h
def rn(a:Act)(dst:Option Tmp)(v:Value):(a.put dst v).defers=a.defers/\(a.put dst v).tmps.size=a.tmps.size:=by
 cases dst<;>simp[Act.put]
def jO.ga(hr:jO g ρ a.tmps){x:AV}{v:Value}(hd:∀d,dst=some d->d<a.tmps.size)(hx:aB g x v):jO g (ρ.ga dst x) (a.put dst v).tmps:=by
 cases dst with
 | none=>exact hr
 | some d=>exact hr.put (hd d rfl) hx
def zi:aB g (.az []) undef:=by simp only[aB];exact⟨[],rfl,by simp[aJ]⟩
def KQ(Q:Ex->Env->St->Prop):Env->St->Prop:=λρ U=>Q .normal ρ U
def Cj(Q:Ex->Env->St->Prop):am:=λx U=>∀ρ,Q (.panic x) ρ U
def tg(dG:FX nt o){mu:Bool}{K:am}{Kp:am}{ds:List Deferred}{next:Act->World->Prop}{a:Act}
 (hs:bT g U w) (hG:kz C g) (hr:jO g ρ a.tmps) (hn:a.tmps.size=nt)
 (h:(mj C mu o.op ρ U).wp C U K Kp)
 (rH:∀g' aa w' x v,Gh.Le g g'->bT g' aa w'->aB g' x v->K x aa->next (a.put o.dst v) w')
 {QQ:Exit->Act->World->Prop} (Mr:∀g' aa w' x v,Gh.Le g g'->bT g' aa w'->aB g' x v->Kp x aa->QQ (.panic [{ v,recovered:=false }]) a w') :
 o.wpIn (FW fr) 0 C.P a w next QQ:=by
 refine⟨λ_ _=>trivial,?_⟩;have Mc:∀c,o.op≠.defer c:=λc e=>by simp[FX,e]at dG
 rw[Oper.semAt_eq _ _ _ Mc];have fits:=abt (C:=C) hs hG hr mu o;generalize hres:(execOp a.eval o).run C.P w=res at fits ⊢;generalize mj C mu o.op ρ U=r at fits h;have val:∀{x aa},(∃u w' g',(res=.ok (.value u) w'\/(res=.ok .skip w'/\u=undef))/\Gh.Le g g'/\bT g' aa w'/\aB g' x u)->K x aa->o.uponIn (FW fr) 0 C.P a next QQ res:=by
  rintro x aa ⟨u,w',g',hu,hle,fj,hx⟩ hk;rcases hu with rfl|⟨rfl,rfl⟩
  . exact rH g' aa w' x u hle fj hx hk
  . exact rH g' aa w' x undef hle fj hx hk
 induction r with
 | val v=>exact val fits h
 | kg v b x=>exact val fits h
 | new k del x=>obtain⟨u,w',g',b,rfl,hb,hle,fj,hx⟩:=fits;exact rH g' _ w' _ u hle fj hx (h b hb)
 | ov b l=>obtain⟨u,w',g',v,x,rfl,hm,hle,fj,hx⟩:=fits;exact rH g' _ w' _ u hle fj hx (h (v,x) hm)
 | enter f args =>
   obtain⟨vs,w',rfl,fj,ha⟩:=fits;refine⟨λhd=>by simp[FW,Fence.wide]at hd,?_⟩;have hc:CallsIn (FW fr) 0 C.P f (List.toArray vs) w' (rN g (bD K Kp)):=h g w' vs fj hG ha;refine hc.mono ?_;rintro e w2 hp;cases e with
   | returned v=>obtain⟨g',aa,x,h1,h2,h3,h4⟩:=hp;exact rH g' aa w2 x v h1 h2 h3 h4
   | panicked ch=>obtain⟨g',aa,x,v,rfl,h1,h2,h3,h4⟩:=hp;exact Mr g' aa w2 x v h1 h2 h3 h4
   | outgrown=>exact hp.elim
 | yield l args =>
   obtain⟨vs,x,w0,w',hx,rfl,rfl,fj,ha⟩:=fits;obtain⟨fn,tmps,assign,body,hy,hR⟩:=h g w' vs x fj hG ha hx;rw[hy];refine⟨λhd=>by simp[FW,Fence.wide]at hd,?_⟩;have hc:RoundIn (FW fr) 0 C.P x.aR fn tmps assign body w' (rN g (bD K Kp)):=hR;refine hc.mono ?_;rintro e w2 hp;cases e with
   | returned v=>obtain⟨g',aa,x,h1,h2,h3,h4⟩:=hp;exact rH g' aa w2 x v h1 h2 h3 h4
   | panicked ch=>obtain⟨g',aa,x,v,rfl,h1,h2,h3,h4⟩:=hp;exact Mr g' aa w2 x v h1 h2 h3 h4
   | outgrown=>exact hp.elim
 | panic v=>obtain⟨u,w',rfl,fj,hx⟩:=fits;exact Mr g _ w' v u (Gh.Le.refl g) fj hx h
 | cond p r ih=>exact ih (fits h.1) h.2
 | bad=>exact h.elim
def BO{mu:List Nat}{ops:Array Oper}(dG:nW nt ops)(g0:Gh):∀(l:List Nat)(g:Gh)(U:St)(w:World)(ρ:Env)(a:Act)(ds:List Deferred),Gh.Le g0 g->bT g U w->kz C g->jO g ρ a.tmps->a.tmps.size=nt->a.defers=ds ->
 sk C mu ops (l.filterMap (ops[·]?)) ρ U (KQ Q) (Cj Q)->wpOpsIn (FW fr) 0 C.P ops (um g0 nt nm ds Q) l a w
 | [],g,U,w,ρ,a,ds,h0,hs,hG,hr,hn,hd,h=>by
   simp only[wpOpsIn];exact⟨hn,g,U,ρ,[],by simpa using hd,oL _ _ _,h0,hs,hr,h⟩
 | i::rest,g,U,w,ρ,a,ds,h0,hs,hG,hr,hn,hd,h=>by
   simp only[wpOpsIn];cases ho:ops[i]? with
   | none =>
     simp only[List.filterMap_cons,ho]at h;exact BO dG g0 rest g U w ρ a ds h0 hs hG hr hn hd h
   | some o =>
     dsimp only;simp only[List.filterMap_cons,ho,sk]at h;have pK:o∈ops.toList:=by
      have:=fT (l:=ops.toList) (i:=i) (a:=o) (by rw[nO];exact ho);exact this
     have Mq:FX nt o:=by
      unfold nW at dG;rw[fQ]at dG;exact dG o pK
     have aaW:∀d,o.dst=some d->d<a.tmps.size:=λd tE=>by
      simp only[FX,tE,cS,dU]at Mq;rw[hn];exact Mq.1
     have go:∀g' aa w' x v,Gh.Le g g'->bT g' aa w'->aB g' x v->sk C mu ops (rest.filterMap (ops[·]?)) (ρ.ga o.dst x) aa (KQ Q) (Cj Q)->wpOpsIn (FW fr) 0 C.P ops (um g0 nt nm ds Q) rest (a.put o.dst v) w':=λg' aa w' x v hle fj hx hk =>
      BO dG g0 rest g' aa w' (ρ.ga o.dst x) (a.put o.dst v) ds (h0.trans hle) fj (hG.mono hle) ((hr.mono hle).ga aaW hx) (by rw[(rn a o.dst v).2];exact hn) (by rw[(rn a o.dst v).1];exact hd) hk
     cases T1:km ops ρ o.guard<;>rw[T1]at h<;>simp only[cX]at h
     rename_i b;have hw:=EV hr T1;cases b
     . rw[if_neg (by rw[hw];simp)];exact⟨λ_ _=>trivial,go g U w (.az []) undef (Gh.Le.refl g) hs zi (h.2 rfl)⟩
     . rw[if_pos hw];refine tg Mq hs hG hr hn (h.1 rfl) go ?_ (ds:=ds);intro g' aa w' x v hle fj hx hk;exact⟨hn,g',aa,ρ,[],by simpa using hd,oL _ _ _,h0.trans hle,fj,hr.mono hle,x,v,rfl,hx,hk ρ⟩
def Hu(ops:Array Oper):(List.range ops.size).filterMap (ops[·]?)=ops.toList:=by
 apply List.ext_getElem?;intro i;have:∀n,n<=ops.size->(List.range n).filterMap (ops[·]?)=ops.toList.take n:=λn=>by
  induction n with
  | zero=>intro _;simp
  | succ n ih =>
    intro hn;rw[List.range_succ,List.filterMap_append,ih d6,nP];have:ops[n]?=some ops[n]:=by simp
    simp[this]
 rw[this ops.size (da _),pO d8]
def cu.region{ops:Array Oper}(mu:List Nat)(dG:nW nt ops)(h:sk C mu ops ops.toList ρ U (KQ Q) (Cj Q)):cu C nt ro (.region id ops false) Q ρ U:=by
 intro g w a fr h1 h2 h3 h4 xV;exact wpIn_region (BO dG g (List.range ops.size) g U w ρ a a.defers (Gh.Le.refl g) h1 h2 h3 h4 rfl (by rw[Hu];exact h))
end
def qz(x:AV)(U:St)(x':AV)(aa:St):Prop:=∀g w v,bT g U w->aB g x v->∃g',Gh.Le g g'/\bT g' aa w/\aB g' x' v
def qz.refl(x:AV)(U:St):qz x U x U:=λg w v h hr=>⟨g,Gh.Le.refl g,h,hr⟩
def qz.trans{x y z:AV}{a b c:St}(h:qz x a y b)(k:qz y b z c):qz x a z c:=λg w v hs hr =>
 let ⟨g1,l1,s1,r1⟩:=h g w v hs hr;let ⟨g2,l2,s2,r2⟩:=k g1 w v s1 r1
 ⟨g2,l1.trans l2,s2,r2⟩
variable {b:Nat}
def qz.freeze{U:St}{l:List AV}(hb:U.box b=some l):qz (.box b 0) U (.dJ l) (U.del b):=λg w v hs hr=>by
 simp only[aB]at hr;obtain⟨x,hx,rfl⟩:=hr;obtain⟨g',vs,hle,_,hi,hl,fj⟩:=hs.freeze hb hx;exact⟨g',hle,fj,by simp only[aB];exact⟨x.aR,0,vs,rfl,hi,hl.mono hle⟩⟩
def qz.aaN{n lx:Nat}{e:TypeId}{U:St}{l:List AV}(hb:U.box b=some l):qz (.ms b 0 n lx e) U (.vec n .lC l) (U.del b):=λg w v hs hr=>by
 simp only[aB]at hr;obtain⟨x,c,hx,rfl,h1,h2,_,_⟩:=hr;obtain⟨g',vs,hle,_,hi,hl,fj⟩:=hs.freeze hb hx;exact⟨g',hle,fj,by simp only[aB];exact⟨x.aR,0,c,vs,rfl,h1,h2,trivial,hi,hl.mono hle⟩⟩
def Et(P:Program)(t:TypeId)(p:AV)(U:St)(k:AV->Prop):Prop :=
 match y6 P t p U with
 | .val v=>k v
 | @aW.cond q _ (.val v)=>q/\k v
 | _=>False
def zQ(P:Program)(ρ:Env)(U:St):List ResultVar->(List AV->Prop)->Prop
 | [],k=>k []
 | .tmp t::rs,k=>zQ P ρ U rs λvs=>k (ρ.get t::vs)
 | .cell t ty::rs,k=>Et P ty (ρ.get t) U λv=>zQ P ρ U rs λvs=>k (v::vs)
def zU:List AV->AV
 | [x]=>x
 | l=>.az l
def akt(P:Program)(fn:Func)(R:bA->St->Prop):Ex->Env->St->Prop
 | .normal,ρ,U|.ret,ρ,U=>zQ P ρ U fn.results.toList λvs=>∃x aa,qz (zU vs) U x aa/\R (.ret x) aa
 | .panic x,_,U=>R (.panic x) U
 | .exit _,_,_=>False
def Env.mh(args:List AV):Env:=⟨λt=>args.getD t (.az [])⟩
section
variable {C:dQ}{g:Gh}{U:St}{w:World}{nt:Nat}{ro:Ro}{Q:Ex->Env->St->Prop}{ρ:Env}
def UO(h:bT g U w){t:TypeId}{p:AV}{v:Value}(hp:aB g p v){k:AV->Prop}(hk:Et C.P t p U k):∃u x,(do loadVar t (<- asAddr v):Sem Value).run C.P w=.ok u w/\aB g x u/\k x:=by
 unfold Et y6 at hk;cases hv:qE C.P t with
 | none=>simp[hv]at hk
 | some bs =>
   obtain⟨b,sz⟩:=bs;cases hl:o8 U p with
   | none=>rw[hv,hl]at hk;cases b<;>simp at hk
   | some l =>
     rw[hv,hl]at hk;obtain⟨i,d,hi,hd,hb,gj⟩:=rC hv;obtain⟨a,vs,rfl,ha,hr,hc⟩:=vB h hp hl;cases b
     . cases l with
       | nil=>simp[kn]at hk
       | cons x xs =>
         simp only[kn]at hk;simp only[aJ]at hr;obtain⟨u,us,rfl,h1,h2⟩:=hr;have:=(hc 0 u rfl).1;have h0:a.add 0=a:=by simp[Addr.add]
         rw[h0]at this;refine⟨u,x,?_,h1,hk⟩;simp only[asAddr,loadVar,dk,dO,dL,oB hd,hb,bW,if_false,run_load,this,hX]
     . obtain⟨hle,hk⟩:=hk;have hlen:=hr.length;have jY:(loadCells a (vs.take sz).length).run C.P w=.ok (vs.take sz).toArray w :=
        run_loadCells_list (P:=C.P) w a (vs.take sz) λj u hu=>by
         rw[List.getElem?_take]at hu;split at hu
         . exact (hc j u hu).1
         . cases hu
       have qI:(vs.take sz).length=sz:=by simp;omega
       rw[qI]at jY;have TN:∀u∈vs.take sz,u.oneCell':=λu hu=>by
        obtain⟨j,hj⟩:=List.getElem?_of_mem hu;rw[List.getElem?_take]at hj;split at hj
        . exact (hc j u hj).2
        . cases hj
       refine⟨.agg (vs.take sz).toArray,_,?_,?_,hk⟩
       . simp only[asAddr,loadVar,dk,dO,dL,oB hd,hb,if_true,gy hi,gj,jY,hX]
       . simp only[aB];exact⟨_,rfl,TN,hr.take sz⟩
def F3(h:bT g U w)(hr:jO g ρ a.tmps):∀(rs:List ResultVar)(k:List AV->Prop),zQ C.P ρ U rs k ->
 ∃us xs,(rs.mapM (fun
  | .tmp t=>pure (a.tmps.getD t undef)
  | .cell p t=>do loadVar t (<- asAddr (a.tmps.getD p undef)):ResultVar->Sem Value)).run C.P w=.ok us w/\aJ g xs us/\k xs
 | [],k,hk=>⟨[],[],d8,by simp[aJ],hk⟩
 | .tmp t::rs,k,hk=>by
   obtain⟨us,xs,h1,h2,h3⟩:=F3 h hr rs _ hk;exact⟨a.tmps.getD t undef::us,ρ.get t::xs,by simp only[List.mapM_cons,dk,dO,dL,h1],by simp only[aJ];exact⟨_,_,rfl,hr t,h2⟩,h3⟩
 | .cell p t::rs,k,hk=>by
   obtain⟨u,x,h4,h5,h6⟩:=UO h (hr p) hk;obtain⟨us,xs,h1,h2,h3⟩:=F3 h hr rs _ h6;simp only[dk]at h4;exact⟨u::us,x::xs,by simp only[List.mapM_cons,dk,dO,h4,dL,h1],by simp only[aJ];exact⟨_,_,rfl,h5,h2⟩,h3⟩
def Fu(h:bT g U w)(hr:jO g ρ a.tmps){fn:Func}{k:List AV->Prop}(hk:zQ C.P ρ U fn.results.toList k) :
 ∃u xs,(results fn a.tmps).run C.P w=.ok u w/\aB g (zU xs) u/\k xs:=by
 obtain⟨us,xs,h1,h2,h3⟩:=F3 h hr _ k hk;have e:(results fn a.tmps).run C.P w=.ok (if h:us.toArray.size=1 then us.toArray[0] else .tuple us.toArray) w:=by
  unfold results;rw[Array.mapM_eq_mapM_toList];simp only[dk,Sem.run_map,dO];erw [h1];rfl
 refine⟨_,xs,e,?_,h3⟩
 match xs,us,h2 with
 | [],us,h2 =>
   simp only[aJ]at h2;subst h2;simp[zU,aB,aJ]
 | [x],us,h2 =>
   simp only[aJ]at h2;obtain⟨u,_,rfl,h4,rfl⟩:=h2;simpa [zU] using h4
 | x::y::zs,us,h2 =>
   have hl:=h2.length;rw[dif_neg (by simp at hl ⊢;omega)];simp only[zU,aB];exact⟨us,rfl,h2⟩
def FD(args:List AV)(vs:List Value)(n:Nat)(ha:aJ g args vs):jO g (Env.mh args) (vs.toArray++Array.replicate n undef):=λt=>by
 simp only[Env.mh,Array.getD_eq_getD_getElem?,pq,Array.getElem?_append,List.size_toArray,List.getElem?_toArray];have hl:=ha.length
 by_cases ht:t<vs.length
 . rw[if_pos ht];obtain⟨x,hx⟩:∃x,args[t]?=some x:=⟨args[t]'(by omega),d8⟩;obtain⟨v,hv,hr⟩:=ha.get hx;rw[hx,hv];exact hr
 . rw[if_neg ht,pn d6];simp only[Option.getD_none];have:((Array.replicate n undef)[t-vs.length]?).getD undef=undef:=by
    rw[Array.getElem?_replicate];split<;>rfl
   rw[this];exact zi
def ud{fn:Func}{R:bA->St->Prop}(g0:Gh):∀(ms:List Nat)(g:Gh)(w:World)(u:FrameMode),ms.Nodup->(∀r∈ms,g.res r/\g0.res r=false)->Gh.Le g0 g->bT g U w->jO g ρ a.tmps ->
 ((u=.returning/\zQ C.P ρ U fn.results.toList λvs=>∃x aa,qz (zU vs) U x aa/\R (.ret x) aa)\/(∃x v,u=.panicking [{ v,recovered:=false }]/\aB g x v/\R (.panic x) U)) ->
 LeavesInM Fence.wide 0 C.P fn a.tmps (rN g0 R) (ms.map K6) u w
 | [],g,w,u,_,_,hle,hs,hr,h=>by
   simp only[mq,LeavesInM];rcases h with ⟨rfl,h⟩|⟨x,v,rfl,hx,h⟩
   . obtain⟨v,xs,jY,hv,x,aa,ht,hR⟩:=Fu hs hr h;obtain⟨g',RA,fj,hx⟩:=ht g w v hs hv;exact⟨v,jY,g',aa,x,hle.trans RA,fj,hx,hR⟩
   . exact⟨g,U,x,v,rfl,hle,hs,hx,h⟩
 | r::ms,g,w,u,hnd,Da,hle,hs,hr,h=>by
   simp only[fh,LeavesInM];refine⟨by rcases h with ⟨rfl,_⟩|⟨_,_,rfl,_⟩<;>simp,.inl ⟨r,{ w with heap:=w.heap.setIfInBounds r (Obj.deferred none) },rfl,?_,?_⟩⟩
   . obtain⟨_,hh⟩:=hs.res r (Da r d8).1;simp[Instr.takeDeferred,getObj,setObj,dk,Sem.run,hh,Result.andThen]
   . have hlR:Gh.xH g { g with res:=λx=>if x=r then false else g.res x }:=⟨λ_ _ h=>h,λ_ _ _ h=>h,λ_ _ h=>h⟩
     refine ud g0 ms { g with res:=λx=>if x=r then false else g.res x } _ u (List.nodup_cons.1 hnd).2 (λq hq=>?_) ?_ (hs.shut (Da r d8).1) (λt=>(hr t).gU hlR) ?_
     . refine⟨?_,(Da q (by simp[hq])).2⟩;show (if q=r then false else g.res q)=true
       rw[if_neg (λe:q=r=>by subst e;exact (List.nodup_cons.1 hnd).1 hq)];exact (Da q (by simp[hq])).1
     . refine⟨hle.base,hle.w0,hle.place,hle.du,hle.cY,λq hq=>?_,hle.Dh,hle.AE⟩;show (if q=r then false else g.res q)=true
       have cD:q≠r:=λe=>by subst e;rw[(Da q d8).2]at hq;cases hq
       rw[if_neg cD];exact hle.res q hq
     . rcases h with h|⟨x,v,h1,h2,h3⟩
       . exact .inl h
       . exact .inr ⟨x,v,h1,h2.gU hlR,h3⟩
def ag.Ql{f:FuncId}{fn:Func}{R:bA->St->Prop}(hf:C.P.funcs[f]?=some fn)(hb:fn.body=some c)(hlen:args.length<=fn.ntmps)
 (h:cu C fn.ntmps .fn c (akt C.P fn R) (Env.mh args) U):ag C f args U R:=by
 intro g w vs hs hG ha;have hl:=ha.length;refine callsIn_of_wp_marks hf hb trivial ?_;have Ij:=FD args vs (fn.ntmps-args.length) ha;have:=h g w { tmps:=vs.toArray++Array.replicate (fn.ntmps-vs.toArray.size) undef,defers:=[] } none hs hG (by
  have e:vs.toArray.size=args.length:=by simpa using hl
  rw[e];exact Ij) (by simp;omega) trivial
 refine wpIn_mono this ?_;rintro e a w' ⟨k1,g',aa,fI,ms,k2,k3,k4,k5,k6,k7⟩;simp only[iM]at k2;cases e with
 | normal =>
   show LeavesInM _ _ _ _ _ _ a.defers _ _;rw[k2];exact ud g ms g' w' _ k3.nodup k3.res k4 k5 k6 (.inl ⟨rfl,k7⟩)
 | ret =>
   show LeavesInM _ _ _ _ _ _ a.defers _ _;rw[k2];exact ud g ms g' w' _ k3.nodup k3.res k4 k5 k6 (.inl ⟨rfl,k7⟩)
 | panic ch =>
   obtain⟨x,v,rfl,hx,hR⟩:=k7;show LeavesInM _ _ _ _ _ _ a.defers _ _;rw[k2];exact ud g ms g' w' _ k3.nodup k3.res k4 k5 k6 (.inr ⟨x,v,rfl,hx,hR⟩)
 | exit id=>exact k7.elim
 | goto l=>exact k7.elim
 | outgrown=>exact k7.elim
def Pure(C:dQ)(f:FuncId)(args:List AV)(x:AV):Prop:=∀U R,R (.ret x) U->ag C f args U R
end
section
variable {C:dQ}{g:Gh}{U:St}{w:World}{nt:Nat}{ro:Ro}{Q:Ex->Env->St->Prop}{ρ:Env}
def ahe(o:Nat)(Q:Ex->Env->St->Prop)(ρ:Env):bA->St->Prop
 | .ret _,aa=>∃L,aa.loop o=some L/\L.state≠.busy/\(match L.iL with
   | none=>Q .normal ρ (aa.del o)
   | some .ret=>Q .ret ρ (aa.del o)
   | some (.exit id)=>Q (.exit id) ρ (aa.del o)
   | _=>False)
 | .panic x,aa=>Q (.panic x) ρ aa
def bT.aat(h:bT g U w){o:Nat}{L:iu}{p:Place}(ho:U.loop o=some L)(hp:g.place o=some p)(x:Loop) :
 bT g (U.del o) { w with heap:=w.heap.setIfInBounds p.aR (.loop x) }:=by
 obtain⟨p',k1,k2,fn,tmps,defers,k3,_⟩:=h.live o _ (St.pN.1 ho);rw[hp]at k1;cases k1;refine (h.weaken (St.xO U o)).change p.aR k2 (Gh.Le.refl g) rfl rfl ⟨rfl,rfl,rfl,d8⟩ (λk hk _=>Array.getElem?_setIfInBounds_ne (Ne.symm hk)) (λ_ _ _=>rfl) (λ_ _=>rfl) (λq u hu=>?_) (λes c hr=>?_) (λb' x' p' h1 h2 e=>?_) (h.yr (St.pN.1 ho) hp)
 . have:=(h.du _ _ _ hu).1;simp[World.cell?,k3]at this
 . have:=(h.cY _ _ _ hr).1;rw[k3]at this;cases this
 . simp only[St.del]at h1;split at h1
   . cases h1
   . rename_i ne;exact ne (h.apart _ _ _ _ _ _ h1 (St.pN.1 ho) h2 hp e)
def bT.ve(h:bT g U w){o:Nat}{L L':iu}{p:Place}(ho:U.loop o=some L)(hp:g.place o=some p){fn:FuncId}{tmps:Array Value}{defers:Nat}
 (hn:tmps.size=L'.nt) (hr:∀t,aB g (L'.ρ t) (tmps.getD t undef)) :
 bT g (U.set o (.loop L')) { w with heap:=w.heap.setIfInBounds p.aR (.loop { state:=L'.state,pending:=L'.iL,fn,tmps,params:=L'.params,assign:=L'.assign,body:=L'.body,defers }) }:=by
 obtain⟨p',k1,k2,fn',Ld,El,k3,_⟩:=h.live o _ (St.pN.1 ho);rw[hp]at k1;cases k1;have aA:=(nN.1 k3).1;refine h.rewrite (St.pN.1 ho) hp ⟨rfl,rfl,rfl,d8⟩ (λk hk _=>Array.getElem?_setIfInBounds_ne (Ne.symm hk)) (λq=>?_) ?_ ⟨fn,tmps,defers,by simp[aA],hn,hr⟩
 . cases e:g.du p.aR q with
   | none=>rfl
   | some u=>have:=(h.du _ _ _ e).1;simp[World.cell?,k3]at this
 . cases e:g.cY p.aR with
   | none=>rfl
   | some u=>have:=(h.cY _ _ _ e).1;rw[k3]at this;cases this
def cu.rangeFunc(tag:Nat){f:Operand}{ps:Array Tmp}{assign body:Code}{lV:FuncId}{first cap:List AV}(hf:ρ.ev C f=.func (.func lV) first cap)(xU:gP C.P lV)
 (h:∀o,U.eO o->ag C lV (first++[.uK o]++cap) (U.new o (.loop ⟨ρ.get,nt,ps,assign,body,.ready,none,tag⟩)) (ahe o Q ρ)):cu C nt .fn (.rangeFunc f ps assign body) Q ρ U:=by
 intro g w a fr hs hG hr hn xV;cases fr with
 | some l=>exact xV.elim
 | none =>
 have hev:=xQ hG hr f;rw[hf]at hev;simp only[aB]at hev;obtain⟨fs,cs,hval,TY,wh⟩:=hev;refine wpIn_rangeFunc λfn _=>?_;obtain⟨Mh,yd⟩:=hs.aeY;have hrE:=hr.mono Mh;obtain⟨o,g2,f1,f2,f3,f4⟩:=yd.yk (.loop { state:=.ready,pending:=none,fn:=fn,tmps:=a.tmps,params:=ps,assign,body,defers:=w.heap.size }) 0 0 (.loop ⟨ρ.get,nt,ps,assign,body,.ready,none,tag⟩)
  λg' hle _ _=>⟨fn,a.tmps,w.heap.size,heap_alloc_new _ _,hn,λt=>(hrE t).mono hle⟩
 have ya:=Mh.trans f2
 obtain⟨LR,hfn,PK,hng⟩:∃LR,C.P.funcs[lV]?=some LR/\LR.body.isNone=false/\(LR.name == "runtime.NumGoroutine")=false:=by
  unfold gP at xU;split at xU
  . rename_i LR hfn;simp only[cS,Bool.not_eq_true']at xU;exact⟨LR,hfn,by cases hb:LR.body<;>simp_all,xU.2⟩
  . cases xU
 refine⟨w.heap.size+1,[{ target:=.collected w.heap.size,args:=#[] }],((w.alloc (.deferred (some []))).alloc (.loop { state:=.ready,pending:=none,fn:=fn,tmps:=a.tmps,params:=ps,assign,body,defers:=w.heap.size })),
  { target:=.fn (.func lV) cs.toArray,args:=fs.toArray++#[.func (.yield (w.heap.size+1)) #[] #[]] },((w.alloc (.deferred (some []))).alloc (.loop { state:=.ready,pending:=none,fn:=fn,tmps:=a.tmps,params:=ps,assign,body,defers:=w.heap.size })),lV,(fs.toArray++#[.func (.yield (w.heap.size+1)) #[] #[]])++cs.toArray,((w.alloc (.deferred (some []))).alloc (.loop { state:=.ready,pending:=none,fn:=fn,tmps:=a.tmps,params:=ps,assign,body,defers:=w.heap.size })),?_,?_,λ_ _=>trivial,?_,λhd=>by simp[FW,Fence.wide]at hd,?_⟩
 . simp only[Instr.enterLoop,FW,dk,run_newObj,dO,dL];rw[Array.size_push];rfl
 . simp only[resolve,rangeCall,List.map_toArray,fh,mq];rw[hval];simp only[Deferred.ofValue,dO];rfl
 . simp only[invoke,callFunc,dk,dO,dL,run_program,hfn,hng,PK,bW,if_false,hX]
 . have hc:=h o f1 g2 _ (fs++[Value.func (.yield (w.heap.size+1)) #[] #[]]++cs) f4 (hG.mono ya) (((TY.mono ya).append (by
    simp only[aJ];exact⟨_,_,rfl,by simp only[aB];exact⟨_,f3,d8⟩,rfl⟩)).append (wh.mono ya))
   have e:(fs++[Value.func (.yield (w.heap.size+1)) #[] #[]]++cs).toArray=fs.toArray++#[Value.func (.yield (w.heap.size+1)) #[] #[]]++cs.toArray:=by simp
   rw[e]at hc;have Cp:CallsIn (FW none) 0 C.P lV _ _ _:=hc;refine Cp.mono ?_;rintro e w3 hp;have Ue:∀g3,Gh.Le g2 g3->rG false g g3 [w.heap.size]:=λg3 hl=>⟨λh=>(by cases h),d8,λr hr=>by
    simp only[lT]at hr;subst hr;exact⟨hl.res _ (f2.res _ d8),hs.IJ (da _)⟩⟩
   cases e with
   | returned v =>
     obtain⟨g3,bG,x,h1,h2,h3,L,h4,h5,h6⟩:=hp;obtain⟨p,q1,q2,fn',Ld,El,q3,q4,q5⟩:=h2.live o _ (St.pN.1 h4);have oy:g3.place o=some ⟨w.heap.size+1,0,0⟩:=h1.place _ _ (by rw[f3];simp);rw[oy]at q1;cases q1;have As:(getObj (w.heap.size+1)).run C.P w3=.ok (.loop { state:=L.state,pending:=L.iL,fn:=fn',tmps:=Ld,params:=L.params,assign:=L.assign,body:=L.body,defers:=El }) w3:=by simp[getObj,Sem.run,q3]
     have Mx:∀x,(setObj (w.heap.size+1) x).run C.P w3=.ok () { w3 with heap:=w3.heap.setIfInBounds (w.heap.size+1) x }:=λx=>by simp[setObj,Sem.run,q3]
     have aia:(L.state==LoopState.busy)=false:=by
      cases hL:L.state<;>first
       | rfl
       | exact absurd hL h5
     have xT:(Instr.endLoop (w.heap.size+1)).run C.P w3=.ok L.iL { w3 with heap:=w3.heap.setIfInBounds (w.heap.size+1) (.loop { state:=.exhausted,pending:=L.iL,fn:=fn',tmps:=Ld,params:=L.params,assign:=L.assign,body:=L.body,defers:=El }) }:=by
      simp only[Instr.endLoop,Instr.getLoop,dk,As,dL,dO,aia,bW,if_false,hX,Mx]
     have hs3:=h2.aat h4 oy { state:=.exhausted,pending:=L.iL,fn:=fn',tmps:=Ld,params:=L.params,assign:=L.assign,body:=L.body,defers:=El };have post:∀ex,LK g3 Q ρ (bG.del o) ex->um g nt false a.defers Q ex { a with defers:=[{ target:=.collected w.heap.size,args:=#[] }]++a.defers } _:=λex hq =>
      ⟨hn,g3,bG.del o,ρ,[w.heap.size],rfl,Ue g3 h1,ya.trans h1,hs3,hr.mono (ya.trans h1),hq⟩
     refine⟨L.iL,_,xT,?_⟩;generalize L.iL=iL at h6 post ⊢;cases iL with
     | none=>exact post .normal h6
     | some c =>
       cases c<;>first
        | exact h6.elim
        | exact wpIn_exit (post (.exit _) h6)
        | exact wpIn_ret (post .ret h6)
   | panicked ch =>
     obtain⟨g3,bG,x,v,rfl,h1,h2,h3,h4⟩:=hp;exact⟨hn,g3,bG,ρ,[w.heap.size],rfl,Ue g3 h1,ya.trans h1,h2,hr.mono (ya.trans h1),x,v,rfl,h3,h4⟩
   | outgrown=>exact hp.elim
def BY(ρ:Nat->AV):List Tmp->List AV->Nat->AV
 | t::ts,v::vs=>BY (λx=>if x=t then v else ρ x) ts vs
 | _,_=>ρ
def Nj{ρ:Nat->AV}{tmps:Array Value}:∀(ps:List Tmp)(args:List AV)(vs:List Value)(ρ:Nat->AV)(tmps:Array Value),(∀t,aB g (ρ t) (tmps.getD t undef))->(∀t∈ps,t<tmps.size)->aJ g args vs ->
 ((ps.zip vs).foldl (λ(tmps:Array Value)(p:Tmp×Value)=>tmps.setIfInBounds p.1 p.2) tmps).size=tmps.size/\∀t,aB g (BY ρ ps args t) (((ps.zip vs).foldl (λ(tmps:Array Value)(p:Tmp×Value)=>tmps.setIfInBounds p.1 p.2) tmps).getD t undef)
 | [],args,vs,ρ,tmps,h,_,_=>by simpa [BY] using h
 | t::ts,[],vs,ρ,tmps,h,_,ha=>by
   simp only[aJ]at ha;subst ha;simpa [BY] using h
 | t::ts,x::args,vs,ρ,tmps,h,hl,ha=>by
   simp only[aJ]at ha;obtain⟨v,vs,rfl,hx,ha⟩:=ha;simp only[List.zip_cons_cons,List.foldl_cons,BY];have h1:∀t',aB g ((λy=>if y=t then x else ρ y) t') ((tmps.setIfInBounds t v).getD t' undef):=(jO.put (g:=g) (ρ:=⟨ρ⟩) h (hl t d8) hx)
   obtain⟨h2,h3⟩:=Nj (ρ:=ρ) (tmps:=tmps) ts args vs _ (tmps.setIfInBounds t v) h1 (λt' qJ=>by simpa using hl t' (by simp[qJ])) ha;exact⟨by rw[h2];simp,h3⟩
def ahh(o:Nat)(R:bA->St->Prop):Ex->Env->St->Prop
 | .normal,_,U=>∃L,U.loop o=some L/\R (.ret (.bool true)) (U.set o (.loop { L with state:=.ready,iL:=none }))
 | .ret,_,U=>∃L,U.loop o=some L/\R (.ret (.bool false)) (U.set o (.loop { L with state:=.done,iL:=some .ret }))
 | .exit id,_,U=>∃L,U.loop o=some L/\R (.ret (.bool false)) (U.set o (.loop { L with state:=.done,iL:=some (.exit id) }))
 | .panic _,_,_=>False
def aek(C:dQ)(o:Nat)(body:Code)(nt:Nat)(R:bA->St->Prop):Ex->Env->St->Prop
 | .normal,ρ,U=>∃L,U.loop o=some L/\L.state=.ready/\cu C nt (.round o) body (ahh o R) ρ (U.set o (.loop { L with state:=.busy }))
 | _,_,_=>False
def o6.Na{o:Nat}{R:bA->St->Prop}{L:iu}(hL:U.loop o=some L)(hargs:args.length=L.params.size)(yV:∀t∈L.params.toList,t<L.nt)
 (h:cu C L.nt (.round o) L.assign (aek C o L.body L.nt R) ⟨BY L.ρ L.params.toList args⟩ U):o6 C o args U R:=by
 intro g w vs x hs hG ha hx;obtain⟨p,k1,k2,fn,tmps,defers,k3,k4,k5⟩:=hs.live o _ (St.pN.1 hL);rw[hx]at k1;cases k1;have As:(getObj x.aR).run C.P w=.ok (.loop { state:=L.state,pending:=L.iL,fn,tmps,params:=L.params,assign:=L.assign,body:=L.body,defers }) w:=by simp[getObj,Sem.run,k3]
 have gj:vs.length=L.params.size:=by rw[ha.length,hargs]
 obtain⟨z1,z2⟩:=Nj (g:=g) (ρ:=L.ρ) (tmps:=tmps) L.params.toList args vs L.ρ tmps k5 (λt ht=>by rw[k4];exact yV t ht) ha;have ah0:(L.params.zip vs.toArray).foldl (λ(tmps:Array Value)(p:Tmp×Value)=>tmps.setIfInBounds p.1 p.2) tmps=(L.params.toList.zip vs).foldl (λ(tmps:Array Value)(p:Tmp×Value)=>tmps.setIfInBounds p.1 p.2) tmps:=by
  rw[<-Array.foldl_toList];congr 1;simp
 refine⟨fn,(L.params.toList.zip vs).foldl (λ(tmps:Array Value)(p:Tmp×Value)=>tmps.setIfInBounds p.1 p.2) tmps,L.assign,L.body,?_,?_⟩
 . simp only[Instr.yield,Instr.getLoop,dk,As,dL,dO,List.size_toArray,gj,ne_eq,not_true_eq_false,if_false,hX];rw[<-ah0]
 . refine roundIn_of_wpIn trivial ?_;have h1:=h g w { tmps:=(L.params.toList.zip vs).foldl (λ(tmps:Array Value)(p:Tmp×Value)=>tmps.setIfInBounds p.1 p.2) tmps,defers:=[] } (some x.aR) hs hG z2 (by rw[<-k4];exact z1) ⟨x,hx,rfl⟩;have xR:L.assign.wpIn (Fence.wide.inRound x.aR) 0 C.P _ _ _:=h1;refine wpIn_mono xR ?_;rintro e a1 w1 ⟨q1,g1,aK,ρ1,ms,q2,q3,q4,q5,q6,q7⟩;cases e with
   | normal =>
     obtain⟨L1,r1,r2,r3⟩:=q7;obtain⟨p,k1,k2,fn,tmps,defers,k3,k4,k5⟩:=q5.live o _ (St.pN.1 r1);rw[q4.place _ _ hx]at k1;cases k1;have As:(getObj x.aR).run C.P w1=.ok (.loop { state:=L1.state,pending:=L1.iL,fn,tmps,params:=L1.params,assign:=L1.assign,body:=L1.body,defers }) w1:=by simp[getObj,Sem.run,k3]
     have Mx:∀y,(setObj x.aR y).run C.P w1=.ok () { w1 with heap:=w1.heap.setIfInBounds x.aR y }:=λy=>by simp[setObj,Sem.run,k3]
     have ua:=q5.ve (L':={ L1 with state:=.busy }) (fn:=fn) (defers:=defers) r1 (q4.place _ _ hx) k4 k5
     refine⟨_,by simp only[Instr.beginRound,Instr.getLoop,dk,As,dL,dO,Mx,r2];rfl,?_⟩;have h2:=r3 g1 _ a1 (some x.aR) ua (hG.mono q4) q6 q1 ⟨x,q4.place _ _ hx,rfl⟩;have EW:L.body.wpIn (Fence.wide.inRound x.aR) 0 C.P _ _ _:=h2;refine wpIn_mono EW ?_;rintro e a2 w2 ⟨q1',g2,aV,uF,MY,q2',q3',q4',q5',q6',Qs⟩;have hx2:=(q4.trans q4').place _ _ hx;have fin:∀(L2:iu)(jump:Option Code)(st:LoopState),aV.loop o=some L2->(if jump.isNone then LoopState.ready else .done)=st->R (.ret (.bool jump.isNone)) (aV.set o (.loop { L2 with state:=st,iL:=jump })) ->
      ∃v w',(Instr.endRound x.aR jump).run C.P w2=.ok v w'/\rN g R (.returned v) w':=λL2 jump st hl ji hR=>by
      obtain⟨p,k1,k2,fn,tmps,defers,k3,k4,k5⟩:=q5'.live o _ (St.pN.1 hl);rw[hx2]at k1;cases k1;have As:(getObj x.aR).run C.P w2=.ok (.loop { state:=L2.state,pending:=L2.iL,fn,tmps,params:=L2.params,assign:=L2.assign,body:=L2.body,defers }) w2:=by simp[getObj,Sem.run,k3]
      have Mx:∀y,(setObj x.aR y).run C.P w2=.ok () { w2 with heap:=w2.heap.setIfInBounds x.aR y }:=λy=>by simp[setObj,Sem.run,k3]
      have hs3:=q5'.ve (L':={ L2 with state:=st,iL:=jump }) (fn:=fn) (defers:=defers) hl hx2 k4 k5
      refine⟨.bool jump.isNone,_,by simp only[Instr.endRound,Instr.getLoop,dk,As,dL,dO,Mx,ji],g2,_,.bool jump.isNone,q4.trans q4',hs3,by simp only[aB],hR⟩
     cases e with
     | normal=>obtain⟨L2,hl,hR⟩:=Qs;exact fin L2 none .ready hl rfl hR
     | ret=>obtain⟨L2,hl,hR⟩:=Qs;exact fin L2 (some .ret) .done hl rfl hR
     | exit id=>obtain⟨L2,hl,hR⟩:=Qs;exact fin L2 (some (.exit id)) .done hl rfl hR
     | panic ch=>obtain⟨x,v,_,_,hf⟩:=Qs;exact hf.elim
     | goto l=>exact Qs.elim
     | outgrown=>exact Qs.elim
   | panic ch=>obtain⟨x,v,_,_,hf⟩:=q7;exact hf.elim
   | ret=>exact q7.elim
   | exit id=>exact q7.elim
   | goto l=>exact q7.elim
   | outgrown=>exact q7.elim
end
variable {v:AV}{i k:Nat}
section
variable {C:dQ}{g:Gh}{U aa:St}{w:World}{nt:Nat}{nm:Bool}{ro:Ro}{fr:Option Nat}{Q:Ex->Env->St->Prop}{ρ fI:Env}{mu:Bool}
def yj{l:List Operand}(h:∀x∈l,ρ.ev C x=fI.ev C x):l.map (ρ.ev C)=l.map (fI.ev C):=List.map_congr_left h
def Cl{parts:Array (Nat×Operand)}(h:∀x∈(parts.toList.map (·.2)).toArray,ρ.ev C x=fI.ev C x):pa C ρ parts=pa C fI parts:=by
 unfold pa;apply List.map_congr_left;intro p hp;rw[h p.2 (by simp;exact⟨p.1,by simpa using hp⟩)]
def U7(o:Op)(h:∀x∈o.operands,ρ.ev C x=fI.ev C x):mj C mu o ρ U=mj C mu o fI U:=by
 cases o with
 | call c =>
   obtain⟨callee,⟨args⟩,⟨tys⟩⟩:=c;simp only[mj,Ek];have ha:args.map (ρ.ev C)=args.map (fI.ev C):=yj λx hx=>h x (by simp only[Op.operands,Call.operands];rw[Array.mem_append];exact .inr (by simpa using hx));cases callee with
   | value f =>
     show kQ C.P (ρ.ev C f) (args.map (ρ.ev C))=kQ C.P (fI.ev C f) (args.map (fI.ev C));rw[ha,h f (by simp[Op.operands,Call.operands])]
   | invoke r m=>rfl
   | builtin b =>
     have hm:∀x∈args,ρ.ev C x=fI.ev C x:=λx hx=>h x (by simp only[Op.operands,Call.operands];rw[Array.mem_append];exact .inr (by simpa using hx));split<;>simp_all
 | build t parts=>simp only[mj];rw[Cl h]
 | buildSlice t n parts=>simp only[mj];rw[Cl h]
 | makeFunc fn first cap =>
   simp only[mj];rw[yj (l:=first.toList) λx hx=>h x (by simp[Op.operands];exact .inl (by simpa using hx)),yj (l:=cap.toList) λx hx=>h x (by simp[Op.operands];exact .inr (by simpa using hx))]
 | slice t x lo hi m =>
   cases m with
   | some _=>rfl
   | none =>
     simp only[mj];have h1:=h x (by simp[Op.operands]);have h2:lo.map (ρ.ev C)=lo.map (fI.ev C):=by
      cases lo with
      | none=>rfl
      | some y=>simp only[Option.map_some];rw[h y (by simp[Op.operands])]
     have h3:hi.map (ρ.ev C)=hi.map (fI.ev C):=by
      cases hi with
      | none=>rfl
      | some y=>simp only[Option.map_some];rw[h y (by simp[Op.operands])]
     rw[h1,h2,h3]
 | makeMap t r=>cases r<;>rfl
 | next i b=>cases b<;>simp_all [mj,Op.operands]
 | _=>simp_all [mj,Op.operands]
def cB:AV->List Nat
 | .box b _=>[b]
 | .ms b _ _ _ _=>[b]
 | .mp m=>[m]
 | .it o=>[o]
 | .vec _ (.own τ) _=>[τ]
 | _=>[]
def aer(h:aa.live b=U.live b):aa.box b=U.box b:=by simp only[St.box,h]
def On{p:AV}(h:∀b∈cB p,aa.live b=U.live b):o8 aa p=o8 U p:=by
 cases p<;>simp only[o8]
 rw[aer (h _ (by simp[cB]))]
def quiet:Op->Bool
 | .move _|.assign _|.pick ..|.load ..|.build ..|.buildSlice ..|.fieldAddr ..|.field ..|.indexAddr ..|.index ..|.binOp ..|.unOp ..|.convert ..|.nilCheck _|.lookup ..|.extract ..|.makeInterface ..|.makeFunc ..
 | .slice ..=>true
 | .call c=>match c.callee with
   | .value _=>true
   | .builtin .len|.builtin .min|.builtin .max=>true
   | _=>false
 | _=>false
def rQ:Op->Bool
 | .load ..|.lookup ..=>true
 | _=>false
def afb(o:Op)(hq:quiet o)(h:rQ o->∀x∈o.operands,∀b∈cB (ρ.ev C x),aa.live b=U.live b):mj C mu o ρ aa=mj C mu o ρ U:=by
 cases o with
 | call c =>
   obtain⟨callee,⟨args⟩,⟨tys⟩⟩:=c;simp only[mj,Ek];cases callee with
   | value f=>rfl
   | invoke r m=>rfl
   | builtin b =>
     cases b<;>simp only[quiet,bW]at hq
     all_goals (split<;>first
      | rfl
      | (simp only[MQ];done)
      | contradiction
      | simp_all)
 | load t a =>
   simp only[mj,y6];rw[On (h rfl a (by simp[Op.operands]))]
 | lookup t m k ok =>
   have:=h rfl m (by simp[Op.operands]);simp only[mj,AL];generalize ρ.ev C m=y at this ⊢;cases y<;>simp_all [cB,St.mp,mM]
 | slice t x lo hi m=>cases m<;>rfl
 | _=>first|rfl|simp[quiet]at hq
def aW.wp_mono{K K':am}{Kp:am}(hk:∀v U,K v U->K' v U):∀(r:aW){U:St},r.wp C U K Kp->r.wp C U K' Kp
 | .val _,_,h=>hk _ _ h
 | .kg _ _ _,_,h=>hk _ _ h
 | .new _ _ _,_,h=>λb hb=>hk _ _ (h b hb)
 | .ov _ _,_,h=>λp hp=>hk _ _ (h p hp)
 | .enter _ _,_,h=>ag.mono h λr U hr=>by cases r<;>first|exact hk _ _ hr|exact hr
 | .yield _ _,_,h=>o6.mono h λr U hr=>by cases r<;>first|exact hk _ _ hr|exact hr
 | .panic _,_,h=>h
 | @aW.cond _ _ r,_,h=>⟨h.1,aW.wp_mono hk r h.2⟩
 | .bad,_,h=>h
def Pu{x:Operand}(h:∀d,dst=some d->x≠.tmp d):(ρ.ga dst v).ev C x=ρ.ev C x:=by
 cases dst with
 | none=>rfl
 | some d =>
   cases x<;>simp only[Env.ga,Env.put,Env.ev]
   rename_i t;rw[if_neg (λe=>h d rfl (by rw[e]))]
def Qp(ops:Array Oper)(o:Oper)(h:∀d,dst=some d->d∉o.looksAt ops):mj C mu o.op (ρ.ga dst v) U=mj C mu o.op ρ U :=
 U7 o.op λx hx=>Pu λd hd hxd=>h d hd (by
  subst hxd;exact List.mem_append_left _ (List.mem_filterMap.2 ⟨.tmp d,by simpa using hx,rfl⟩))
def Jl(ops:Array Oper)(o:Oper)(h:∀d,dst=some d->d∉o.looksAt ops):km ops (ρ.ga dst v) o.guard=km ops ρ o.guard:=by
 cases dst with
 | none=>rfl
 | some d =>
   have hd:=h d rfl;unfold km;cases hg:o.guard with
   | none=>rfl
   | some jw =>
     obtain⟨j,want⟩:=jw;simp only;cases hb:(ops[j]?).bind (·.dst) with
     | none=>rfl
     | some t =>
       have cD:t≠d:=λe=>by
        subst e;apply hd;unfold Oper.looksAt;rw[hg];simp only[hb,Option.toList_some,gV,lT,or_true]
       simp only[Env.ga,Env.put,if_neg cD]
def Vk{d d':Option Tmp}{v':AV}(h:∀t,d=some t->d'≠some t):(ρ.ga d v).ga d' v'=(ρ.ga d' v').ga d v:=by
 cases d<;>cases d'<;>simp only[Env.ga]
 rename_i a b;have cD:b≠a:=λe=>h a rfl (by rw[e]);simp only[Env.put,Env.mk.injEq];funext t
 by_cases h1:t=b
 . subst h1;rw[if_pos rfl,if_neg cD,if_pos rfl]
 . rw[if_neg h1]
   by_cases h2:t=a
   . rw[if_pos h2,if_pos h2]
   . rw[if_neg h2,if_neg h2,if_neg h1]
def qC(mu:List Nat)(o:Oper):Bool:=match o.dst with|some d=>mu.contains d|none=>false
def nX(C:dQ)(mu:List Nat)(ops:Array Oper)(I:St->Prop)(i:Nat)(K:Env->St->Prop)(Kp:am)(ρ:Env)(U:St):Prop :=
 match ops[i]? with
 | none=>K ρ U
 | some o=>cX (km ops ρ o.guard) ((mj C (qC mu o) o.op ρ U).wp C U (λv aa=>I aa/\K (ρ.ga o.dst v) aa) Kp) (K (ρ.ga o.dst (.az [])) U)
def onB(o:Oper)(k:Nat):Bool:=o.after.toList.any λe=>Region.binds .any e&&Nat.beq e.on k
def vU(ops:Array Oper)(i:Nat):Bool:=match ops[i]? with
 | some o=>(List.range ops.size).all λk=>Nat.beq k i||(onB o k||o.after.toList.any λe=>Region.binds .any e&&(match ops[e.on]? with|some m=>onB m k|none=>false))
 | none=>false
def Dn(ops:Array Oper)(listed:Array Bool):Prop:=∀m o,ops[m]?=some o->listed.getD m false->∀e∈o.after,Region.binds .any e->listed.getD e.on false
def Nb{o:Oper}(h:onB o k):∃e∈o.after,Region.binds .any e/\e.on=k:=by
 unfold onB at h;rw[List.any_eq_true]at h;obtain⟨e,he,hb⟩:=h;simp only[cS]at hb;exact⟨e,by simpa using he,hb.1,gN hb.2⟩
def Ll{ops:Array Oper}{listed:Array Bool}(hD:Dn ops listed)(hr:i∈Region.ready .any ops listed)(h:vU ops i)(k:Nat)(hk:k<ops.size)(cD:k≠i):listed.getD k false:=by
 obtain⟨_,o,ho,cg⟩:=mem_ready.1 hr;unfold vU at h;rw[ho]at h;simp only[fQ,List.mem_range,ml]at h;rcases h k hk with h|h|h
 . exact absurd (gN h) cD
 . obtain⟨e,he,hb,G3⟩:=Nb h;rw[<-G3];exact cg e he hb
 . rw[List.any_eq_true]at h;obtain⟨e,he,hb⟩:=h;rw[cS]at hb;have h1:=cg e (by simpa using he) hb.1;have h2:=hb.2;split at h2
   . rename_i m hm;obtain⟨e',n6,fi,ajP⟩:=Nb h2;rw[<-ajP];exact hD _ m hm h1 e' n6 fi
   . cases h2
def KS(o:Oper):List Nat:=o.after.toList.filterMap λe=>if Region.binds .any e=true then some e.on else none
def HG(ops:Array Oper):Nat->List Nat->List Nat
 | 0,l=>l
 | k+1,l=>HG ops k (if l.any (Nat.beq k)=true then (match ops[k]? with|some o=>KS o++l|none=>l) else l)
def Pp(ops:Array Oper)(i:Nat):Bool:=match ops[i]? with
 | some o=>let l:=HG ops ops.size (KS o);(List.range ops.size).all λk=>Nat.beq k i||l.any (Nat.beq k)
 | none=>false
def qL(ops:Array Oper)(i:Nat):Bool:=vU ops i||Pp ops i
def aeP{ops:Array Oper}(h:vU ops i):qL ops i:=by unfold qL;rw[h];rfl
def I6{o:Oper}(h:k∈KS o):∃e∈o.after,Region.binds .any e/\e.on=k:=by
 unfold KS at h;rw[List.mem_filterMap]at h;obtain⟨e,he,h⟩:=h;split at h
 . rename_i hb;exact⟨e,by simpa using he,hb,by simpa using h⟩
 . cases h
def Kt{ops:Array Oper}{listed:Array Bool}(hD:Dn ops listed):∀(k:Nat)(l:List Nat),(∀x∈l,listed.getD x false)->∀x∈HG ops k l,listed.getD x false
 | 0,l,h,x,hx=>h x hx
 | k+1,l,h,x,hx=>by
   rw[HG]at hx;refine Kt hD k _ (λy hy=>?_) x hx;split at hy
   . rename_i hk;rw[List.any_eq_true]at hk;obtain⟨z,hz,Ur⟩:=hk;obtain rfl:=gN Ur;split at hy
     . rename_i o ho;rw[gV]at hy;rcases hy with hy|hy
       . obtain⟨e,he,hb,rfl⟩:=I6 hy;exact hD _ o ho (h _ hz) e he hb
       . exact h y hy
     . exact h y hy
   . exact h y hy
def Hc{ops:Array Oper}{listed:Array Bool}(hD:Dn ops listed)(hr:i∈Region.ready .any ops listed)(h:qL ops i)(k:Nat)(hk:k<ops.size)(cD:k≠i):listed.getD k false:=by
 unfold qL at h;rw[ml]at h;rcases h with h|h
 . exact Ll hD hr h k hk cD
 obtain⟨_,o,ho,cg⟩:=mem_ready.1 hr;unfold Pp at h;rw[ho]at h;simp only[fQ,List.mem_range,ml]at h;rcases h k hk with h|h
 . exact absurd (gN h) cD
 . rw[List.any_eq_true]at h;obtain⟨z,hz,Ur⟩:=h;obtain rfl:=gN Ur;refine Kt hD ops.size _ (λy hy=>?_) _ hz;obtain⟨e,he,hb,rfl⟩:=I6 hy;exact cg e he hb
def Dn.set{ops:Array Oper}{listed:Array Bool}(hD:Dn ops listed)(hr:i∈Region.ready .any ops listed):Dn ops (listed.setIfInBounds i true):=by
 intro m o ho hl e he hb;obtain⟨_,oi,E9,cg⟩:=mem_ready.1 hr
 by_cases Ml:i=m
 . subst Ml;rw[E9]at ho;cases ho;exact getD_set_true (cg e he hb)
 . rw[getD_set_ne false Ml]at hl;exact getD_set_true (hD m o ho hl e he hb)
def Dn.none(ops:Array Oper)(n:Nat):Dn ops (Array.replicate n false):=by
 intro m o ho hl;rw[Array.getD_eq_getD_getElem?,Array.getElem?_replicate]at hl;split at hl<;>simp at hl
def Ix(ops:Array Oper)(I:St->Prop)(i:Nat)(U:St):Prop:=qL ops i\/I U
def o7(C:dQ)(mu:List Nat)(ops:Array Oper)(I:St->Prop)(K:Env->St->Prop)(Kp:am):Nat->Array Bool->Env->St->Prop
 | 0,listed,ρ,U=>Region.ready .any ops listed=[]/\K ρ U
 | n+1,listed,ρ,U=>(Region.ready .any ops listed=[]->K ρ U)/\∀i∈Region.ready .any ops listed,nX C mu ops (Ix ops I i) i (o7 C mu ops I K Kp n (listed.setIfInBounds i true)) Kp ρ U
def QW{mu:List Nat}{ops:Array Oper}{I:St->Prop}(dG:nW nt ops)(g0:Gh):∀(fuel t:Nat)(listed:Array Bool)(g:Gh)(U:St)(w:World)(ρ:Env)(a:Act)(ds:List Deferred),Gh.Le g0 g->bT g U w->kz C g->jO g ρ a.tmps->a.tmps.size=nt->a.defers=ds ->
 o7 C mu ops I (KQ Q) (Cj Q) fuel listed ρ U->wpOpsIn (FW fr) 0 C.P ops (um g0 nt nm ds Q) (Region.linearise.go .any ops fuel t listed []) a w:=by
 intro fuel
 induction fuel with
 | zero =>
   intro t listed g U w ρ a ds h0 hs hG hr hn hd h;simp only[Region.linearise.go,List.reverse_nil,wpOpsIn];exact⟨hn,g,U,ρ,[],by simpa using hd,oL _ _ _,h0,hs,hr,h.2⟩
 | succ fuel ih =>
   intro t listed g U w ρ a ds h0 hs hG hr hn hd h;obtain⟨h1,h2⟩:=h;simp only[Region.linearise.go];change wpOpsIn (FW fr) 0 C.P ops (um g0 nt nm ds Q) (match (Region.ready .any ops listed)[t%(Region.ready .any ops listed).length]? with
    | some i=>Region.linearise.go .any ops fuel (t / (Region.ready .any ops listed).length) (listed.setIfInBounds i true) [i]
    | none=>[].reverse) a w
   cases hi:(Region.ready .any ops listed)[t%(Region.ready .any ops listed).length]? with
   | none =>
     have Ik:Region.ready .any ops listed=[]:=by
      cases hr:Region.ready .any ops listed with
      | nil=>rfl
      | cons x xs =>
        rw[hr]at hi;have aA:t%(x::xs).length<(x::xs).length:=Nat.mod_lt _ d8;simp at hi;simp at aA;omega
     simp only[List.reverse_nil,wpOpsIn];exact⟨hn,g,U,ρ,[],by simpa using hd,oL _ _ _,h0,hs,hr,h1 Ik⟩
   | some i =>
     dsimp only;rw[linearise_go_acc,List.reverse_singleton,List.singleton_append];simp only[wpOpsIn];have ji:=h2 i (fT hi);unfold nX at ji;cases ho:ops[i]? with
     | none =>
       rw[ho]at ji;exact ih _ _ g U w ρ a ds h0 hs hG hr hn hd ji
     | some o =>
       rw[ho]at ji;dsimp only at ji ⊢;have pK:o∈ops.toList:=fT (l:=ops.toList) (i:=i) (a:=o) (by rw[nO];exact ho);have Mq:FX nt o:=by
        unfold nW at dG;rw[fQ]at dG;exact dG o pK
       have aaW:∀d,o.dst=some d->d<a.tmps.size:=λd tE=>by
        simp only[FX,tE,cS,dU]at Mq;rw[hn];exact Mq.1
       have go:∀g' aa w' x v,Gh.Le g g'->bT g' aa w'->aB g' x v->o7 C mu ops I (KQ Q) (Cj Q) fuel (listed.setIfInBounds i true) (ρ.ga o.dst x) aa->wpOpsIn (FW fr) 0 C.P ops (um g0 nt nm ds Q) (Region.linearise.go .any ops fuel (t / (Region.ready .any ops listed).length) (listed.setIfInBounds i true) []) (a.put o.dst v) w':=λg' aa w' x v hle fj hx hk =>
        ih _ _ g' aa w' (ρ.ga o.dst x) (a.put o.dst v) ds (h0.trans hle) fj (hG.mono hle) ((hr.mono hle).ga aaW hx) (by rw[(rn a o.dst v).2];exact hn) (by rw[(rn a o.dst v).1];exact hd) hk
       cases T1:km ops ρ o.guard<;>rw[T1]at ji<;>simp only[cX]at ji
       rename_i b;have hw:=EV hr T1;cases b
       . rw[if_neg (by rw[hw];simp)];exact⟨λ_ _=>trivial,go g U w (.az []) undef (Gh.Le.refl g) hs zi (ji.2 rfl)⟩
       . rw[if_pos hw];refine tg Mq hs hG hr hn (ji.1 rfl) (λg' aa w' x v hle fj hx hk=>go g' aa w' x v hle fj hx hk.2) ?_ (ds:=ds);intro g' aa w' x v hle fj hx hk;exact⟨hn,g',aa,ρ,[],by simpa using hd,oL _ _ _,h0.trans hle,fj,hr.mono hle,x,v,rfl,hx,hk ρ⟩
def cu.DN{ops:Array Oper}(mu:List Nat)(I:St->Prop)(hm:C.P.follows .mixedOrders)(dG:nW nt ops)(h:o7 C mu ops I (KQ Q) (Cj Q) ops.size (Array.replicate ops.size false) ρ U):cu C nt ro (.region id ops true) Q ρ U:=by
 intro g w a fr h1 h2 h3 h4 xV;refine wpIn_region_draw λt=>?_;simp only[Region.schedule,hm,Bool.true_or,if_true,Region.linearise];have hs:=h1.grow (nF w);exact QW dG g ops.size t _ g U _ ρ a a.defers (Gh.Le.refl g) hs h2 h3 h4 rfl h
def aW.yv(C:dQ):aW->AV->Prop
 | .val u,v=>u=v
 | @aW.cond p _ r,v=>p/\r.yv C v
 | .enter f args,v=>Pure C f args v
 | _,_=>False
def aW.SY{K:am}{Kp:am}:∀(r:aW){v:AV},r.yv C v->K v U->r.wp C U K Kp
 | .val _,_,h,hk=>by simp only[aW.yv]at h;subst h;exact hk
 | @aW.cond _ _ r,_,h,hk=>⟨h.1,aW.SY r h.2 hk⟩
 | .enter _ _,_,h,hk=>h U _ hk
 | .kg _ _ _,_,h,_=>h.elim
 | .new _ _ _,_,h,_=>h.elim
 | .ov _ _,_,h,_=>h.elim
 | .yield _ _,_,h,_=>h.elim
 | .panic _,_,h,_=>h.elim
 | .bad,_,h,_=>h.elim
def dR(B:List Nat)(aj U:St):Prop:=∀b∈B,U.live b=aj.live b
def Still(C:dQ)(mu:List Nat)(ops:Array Oper)(B:List Nat)(aj:St)(o:Oper)(ρ:Env)(v:AV):Prop :=
 (km ops ρ o.guard=.bool true/\quiet o.op/\(rQ o.op->∀x∈o.op.operands.toList,∀b∈cB (ρ.ev C x),b∈B)/\(mj C (qC mu o) o.op ρ aj).yv C v)\/(km ops ρ o.guard=.bool false/\v=.az [])
def Still.put{mu:List Nat}{ops:Array Oper}{B:List Nat}{aj:St}(h:Still C mu ops B aj o ρ v){u:AV}(hd:∀d,dst=some d->d∉o.looksAt ops):Still C mu ops B aj o (ρ.ga dst u) v:=by
 unfold Still at h ⊢;rw[Jl ops o hd,Qp ops o hd];rcases h with ⟨h1,h2,h3,h4⟩|h
 . refine .inl ⟨h1,h2,λuI x hx b hb=>h3 uI x hx b ?_,h4⟩;rw[Pu λd tE hxd=>hd d tE (by
    subst hxd;exact List.mem_append_left _ (List.mem_filterMap.2 ⟨.tmp d,hx,rfl⟩))]at hb
   exact hb
 . exact .inr h
def Still.step{mu:List Nat}{ops:Array Oper}{B:List Nat}{aj:St}{K:Env->St->Prop}{Kp:am}(hi:ops[i]?=some o)(h:Still C mu ops B aj o ρ v)(hI:dR B aj U){I':St->Prop}(GO:I' U)(hk:K (ρ.ga o.dst v) U) :
 nX C mu ops I' i K Kp ρ U:=by
 unfold nX;rw[hi];dsimp only;rcases h with ⟨h1,h2,h3,h4⟩|⟨h1,rfl⟩
 . rw[h1];refine⟨λ_=>?_,λh=>by cases h⟩;have e:=afb (C:=C) (ρ:=ρ) (mu:=qC mu o) (aa:=U) (U:=aj) o.op h2 (λuI x hx b hb=>hI b (h3 uI x (by simpa using hx) b hb));rw[e];exact aW.SY _ h4 ⟨GO,hk⟩
 . rw[h1];exact⟨λh=>(by cases h),λ_=>hk⟩
def HE{mu:List Nat}{ops:Array Oper}{I:St->Prop}{K K':Env->St->Prop}{Kp:am}(hI:I U)(hk:∀ρ U,I U->K ρ U->K' ρ U)(h:nX C mu ops I i K Kp ρ U):nX C mu ops I i K' Kp ρ U:=by
 unfold nX at h ⊢;split
 . rename_i ho;rw[ho]at h;exact hk _ _ hI h
 . rename_i o ho;rw[ho]at h;dsimp only at h;cases hg:km ops ρ o.guard<;>rw[hg]at h<;>simp only[cX]at h ⊢
   exact⟨λe=>aW.wp_mono (λv U hv=>⟨hv.1,hk _ _ hv.1 hv.2⟩) _ (h.1 e),λe=>hk _ _ hI (h.2 e)⟩
def Gt{mu:List Nat}{ops:Array Oper}{B:List Nat}{aj:St}{K:Env->St->Prop}{Kp:am}{oi:Oper}{v:AV}(hi:ops[i]?=some oi) :
 ∀(fuel:Nat)(listed:Array Bool)(ρ:Env)(U:St),
  (∀j oj,ops[j]?=some oj->j≠i->listed.getD j true=false->(∀e∈oj.after,Region.binds .any e->e.on≠i)->oi.apart ops oj) ->
  i∈Region.ready .any ops listed->Dn ops listed->Still C mu ops B aj oi ρ v->dR B aj U ->
  o7 C mu ops (dR B aj) K Kp fuel (listed.setIfInBounds i true) (ρ.ga oi.dst v) U->o7 C mu ops (dR B aj) K Kp (fuel+1) listed ρ U:=by
 intro fuel
 induction fuel with
 | zero =>
   intro listed ρ U _ hr hD hy hI H;refine⟨λh=>(by rw[h]at hr;cases hr),λj hj=>?_⟩
   by_cases wQ:j=i
   . subst wQ;exact hy.step hi hI (.inr hI) H
   . have:=ready_mono hj wQ;rw[H.1]at this;cases this
 | succ fuel ih =>
   intro listed ρ U KX hr hD hy hI H;refine⟨λh=>(by rw[h]at hr;cases hr),λj hj=>?_⟩
   by_cases wQ:j=i
   . subst wQ;exact hy.step hi hI (.inr hI) H
   . have h1:=H.2 j (ready_mono hj wQ);obtain⟨agF,oj,qZ,cg⟩:=mem_ready.1 hj;have Mp:∀e∈oj.after,Region.binds .any e->e.on≠i:=λe he hb heq=>by
      have h1:=cg e he hb;have h0:=(mem_ready.1 hr).1;rw[heq]at h1;rcases ik i listed.size with h'|h'
      . simp[h']at h0 h1;rw[h0]at h1;cases h1
      . simp[B1 h']at h1
     obtain⟨a1,a2,a3⟩:=Oper.apart_spec (KX j oj qZ wQ agF Mp);have agD:∀k ok,ops[k]?=some ok->k≠i->(listed.setIfInBounds j true).getD k true=false ->
      (∀e∈ok.after,Region.binds .any e->e.on≠i)->oi.apart ops ok:=λk ok hk PH hun iV=>by
      refine KX k ok hk PH ?_ iV
      by_cases GW:j=k
      . subst GW;exact agF
      . rw[getD_set_ne true GW]at hun;exact hun
     have Uf:¬ qL ops j:=λah7=>by
      have h1:=Hc hD hj ah7 i (nN.1 hi).1 (Ne.symm wQ);have h0:=(mem_ready.1 hr).1;rcases ik i listed.size with h'|h'
      . simp[h']at h0 h1;rw[h0]at h1;cases h1
      . simp[B1 h']at h1
     have next:∀(u:AV)(aa:St),dR B aj aa->o7 C mu ops (dR B aj) K Kp fuel ((listed.setIfInBounds i true).setIfInBounds j true) ((ρ.ga oi.dst v).ga oj.dst u) aa ->
      o7 C mu ops (dR B aj) K Kp (fuel+1) (listed.setIfInBounds j true) (ρ.ga oj.dst u) aa:=λu aa GO hA=>by
      refine ih (listed.setIfInBounds j true) (ρ.ga oj.dst u) aa agD (ready_mono hr (Ne.symm wQ)) (hD.set hj) (hy.put a3) GO ?_;rw[Array.setIfInBounds_comm _ _ wQ,<-Vk (d:=oi.dst) (d':=oj.dst) (λt ht=>a2 t ht)];exact hA
     unfold nX at h1 ⊢;rw[qZ]at h1 ⊢;dsimp only at h1 ⊢;rw[Jl ops oj a1,Qp ops oj a1]at h1;cases hg:km ops ρ oj.guard<;>rw[hg]at h1<;>simp only[cX]at h1 ⊢
     exact⟨λe=>aW.wp_mono (λu aa hu=>⟨hu.1,next u aa (hu.1.resolve_left Uf) hu.2⟩) _ (h1.1 e),λe=>next _ U hI (h1.2 e)⟩
def kM(ops:Array Oper):List (Bool×Nat)->Array Bool->Bool
 | [],listed=>(Region.ready .any ops listed).isEmpty
 | (true,i)::r,listed=>(Region.ready .any ops listed).contains i&&Region.free .any ops listed i&&kM ops r (listed.setIfInBounds i true)
 | (false,i)::r,listed=>(Region.ready .any ops listed==[i])&&kM ops r (listed.setIfInBounds i true)
def oz(C:dQ)(mu:List Nat)(ops:Array Oper)(B:List Nat)(aj:St)(K:Env->St->Prop)(Kp:am):List (Bool×Nat)->Env->St->Prop
 | [],ρ,U=>K ρ U
 | (true,i)::r,ρ,U=>∃o v,ops[i]?=some o/\Still C mu ops B aj o ρ v/\oz C mu ops B aj K Kp r (ρ.ga o.dst v) U
 | (false,i)::r,ρ,U=>nX C mu ops (Ix ops (dR B aj) i) i (oz C mu ops B aj K Kp r) Kp ρ U
def abB{ops:Array Oper}{listed:Array Bool}(hD:Dn ops listed)(hi:i∈Region.ready .any ops listed)(ha:qL ops i):∀{r:List (Bool×Nat)},kM ops r (listed.setIfInBounds i true)=true->r=[]
 | [],_=>rfl
 | (b,k)::r,h=>by
   exfalso;have hk:k∈Region.ready .any ops (listed.setIfInBounds i true):=by
    cases b with
    | true=>simp only[kM,cS]at h;simpa using h.1.1
    | false=>simp only[kM,cS,beq_iff_eq]at h;rw[h.1];simp
   obtain⟨h0,ok,dG,_⟩:=mem_ready.1 hk;have sE:=(mem_ready.1 hi).1;have cD:k≠i:=λe=>by
    subst e;have aA:k<listed.size:=by
     rcases ik k listed.size with h|h
     . exact h
     . simp[B1 h]at sE
    simp[aA]at h0
   have h1:=Hc hD hi ha k (nN.1 dG).1 cD;rw[getD_set_ne true (Ne.symm cD)]at h0;rcases ik k listed.size with h'|h'
   . simp[h']at h0 h1;rw[h0]at h1;cases h1
   . simp[B1 h']at h1
def wo{mu:List Nat}{ops:Array Oper}{B:List Nat}{aj:St}{K:Env->St->Prop}{Kp:am}:∀(ey:List (Bool×Nat))(listed:Array Bool)(ρ:Env)(U:St),kM ops ey listed->Dn ops listed->(ey=[]\/dR B aj U)->oz C mu ops B aj K Kp ey ρ U ->
 o7 C mu ops (dR B aj) K Kp ey.length listed ρ U
 | [],listed,ρ,U,hp,hD,hI,h=>⟨by simpa [kM] using hp,h⟩
 | (true,i)::r,listed,ρ,U,hp,hD,hI,h=>by
   have hI:=hI.resolve_left d8;simp only[kM,cS]at hp;obtain⟨o,v,ho,ji,hr⟩:=h;exact Gt ho r.length listed ρ U (Region.free_spec ho hp.1.2) (by simpa using hp.1.1) hD ji hI (wo r _ _ U hp.2 (hD.set (by simpa using hp.1.1)) (.inr hI) hr)
 | (false,i)::r,listed,ρ,U,hp,hD,hI,h=>by
   have hS:=hI.resolve_left d8;simp only[kM,cS,beq_iff_eq]at hp;refine⟨λh0=>(by rw[hp.1]at h0;cases h0),λj hj=>?_⟩;have Ju:=hj;rw[hp.1,lT]at hj;subst hj;exact HE (.inr hS) (λfI aa GO hr=>wo r _ fI aa hp.2 (hD.set Ju) (GO.elim (λha=>.inl (abB hD Ju ha hp.2)) .inr) hr) h
def cu.xo{id:Nat}{ops:Array Oper}(mu:List Nat)(B:List Nat)(ey:List (Bool×Nat))(hm:C.P.follows .mixedOrders)(dG:nW nt ops)(hp:(kM ops ey (Array.replicate ops.size false)&&(ey.length==ops.size)))
 (h:oz C mu ops B U (KQ Q) (Cj Q) ey ρ U):cu C nt ro (.region id ops true) Q ρ U:=by
 simp only[cS,beq_iff_eq]at hp;refine cu.DN mu (dR B U) hm dG ?_;have:=wo ey _ ρ U hp.1 (Dn.none _ _) (.inr λ_ _=>rfl) h;rw[hp.2]at this;exact this
def aW.Gq{K:am}{Kp Ci:am}(hp:∀v U,Kp v U->Ci v U):∀(r:aW){U:St},r.wp C U K Kp->r.wp C U K Ci
 | .val _,_,h=>h
 | .kg _ _ _,_,h=>h
 | .new _ _ _,_,h=>h
 | .ov _ _,_,h=>h
 | .enter _ _,_,h=>ag.mono h λr U hr=>by cases r<;>first|exact hr|exact hp _ _ hr
 | .yield _ _,_,h=>o6.mono h λr U hr=>by cases r<;>first|exact hr|exact hp _ _ hr
 | .panic _,_,h=>hp _ _ h
 | @aW.cond _ _ r,_,h=>⟨h.1,aW.Gq hp r h.2⟩
 | .bad,_,h=>h
def l9{mu:List Nat}{ops:Array Oper}{B:List Nat}{aj:St}{K K':Env->St->Prop}{Kp Ci:am}(hk:∀ρ U,K ρ U->K' ρ U)(hp:∀v U,Kp v U->Ci v U):∀(l:List (Bool×Nat)){ρ:Env}{U:St},oz C mu ops B aj K Kp l ρ U->oz C mu ops B aj K' Ci l ρ U
 | [],_,_,h=>hk _ _ h
 | (true,i)::r,ρ,U,h=>by
   obtain⟨o,v,h1,h2,h3⟩:=h;exact⟨o,v,h1,h2,l9 hk hp r h3⟩
 | (false,i)::r,ρ,U,h=>by
   simp only[oz,nX]at h ⊢;split
   . rename_i ho;rw[ho]at h;exact l9 hk hp r h
   . rename_i o ho;rw[ho]at h;dsimp only at h;cases hg:km ops ρ o.guard<;>rw[hg]at h<;>simp only[cX]at h ⊢
     exact⟨λe=>aW.wp_mono (λv U hv=>⟨hv.1,l9 hk hp r hv.2⟩) _ (aW.Gq hp _ (h.1 e)),λe=>l9 hk hp r (h.2 e)⟩
end
def uc(kk:IntKind)(a:Int)(v:AV)(kv:List AV×List AV):List AV×List AV:=jG (.int kk a) v kv.1 kv.2
def yX(kk:IntKind)(a b:Int):lZ (.int kk a) (.int kk b)=decide (a<b):=by simp[lZ]
def CG(kk:IntKind)(kv:List AV×List AV):Prop:=kv.1.length=kv.2.length/\∀y∈kv.1,∃n,y=.int kk n
def MF(k v:AV):∀ks vs:List AV,ks.length=vs.length->(jG k v ks vs).1.length=(jG k v ks vs).2.length
 | [],[],_=>rfl
 | y::ys,w::ws,h=>by
   simp only[jG];split
   . simpa using h
   . simpa using MF k v ys ws (by simpa using h)
 | [],_::_,h=>by simp at h
 | _::_,[],h=>by simp at h
variable {kk:IntKind}
def P3{a:Int}{kv:List AV×List AV}(h:CG kk kv):CG kk (uc kk a v kv) :=
 ⟨MF _ _ _ _ h.1,λy hy=>by
   rcases By _ _ y hy with rfl|hy
   . exact⟨a,rfl⟩
   . exact h.2 y hy⟩
def JK{a b:Int}{v w:AV}(PC:a≠b):∀ks vs:List AV,ks.length=vs.length->(∀y∈ks,∃n,y=.int kk n) ->
 jG (.int kk a) v (jG (.int kk b) w ks vs).1 (jG (.int kk b) w ks vs).2=jG (.int kk b) w (jG (.int kk a) v ks vs).1 (jG (.int kk a) v ks vs).2
 | [],[],_,_=>by
   simp only[jG,yX]
   by_cases h:a<b
   . have:¬ b<a:=by omega
     simp[h,this]
   . have:b<a:=by omega
     simp[h,this]
 | y::ys,x::xs,h,hy=>by
   obtain⟨n,rfl⟩:=hy _ (List.mem_cons_self ..);have ih:=JK (v:=v) (w:=w) PC ys xs (by simpa using h) (λy hm=>hy y (by simp[hm]));simp only[jG,yX]
   by_cases h1:a<n<;>by_cases h2:b<n<;>by_cases h3:a<b
   all_goals (have h4:b<a\/¬ b<a:=by omega)
   all_goals (rcases h4 with h4|h4<;>simp only[h1,h2,h3,h4,cC,cZ,if_true,if_false,bW,jG,yX]<;>first|omega|(simp only[ih];done)|rfl|(simp[jG,yX,h1,h2,h3,h4,ih];done))
 | [],_::_,h,_=>by simp at h
 | _::_,[],h,_=>by simp at h
def Uu{a b:Int}{w:AV}(PC:a≠b){kv:List AV×List AV}(h:CG kk kv):uc kk a v (uc kk b w kv)=uc kk b w (uc kk a v kv):=JK PC kv.1 kv.2 h.1 h.2
structure zx where
 i:Nat
 key:Int
 val:AV
def sH(kk:IntKind)(l:List zx)(kv:List AV×List AV):List AV×List AV:=l.foldl (λkv x=>uc kk x.key x.val kv) kv
def Di:∀(u4:List zx)(x:zx)(u5:List zx){kv:List AV×List AV},CG kk kv->(∀y∈u4,y.key≠x.key)->sH kk (u4++x::u5) kv=sH kk (u4++u5) (uc kk x.key x.val kv)
 | [],x,u5,_,_,_=>rfl
 | y::u4,x,u5,kv,h,hk=>by
   show sH kk (u4++x::u5) (uc kk y.key y.val kv)=sH kk (u4++u5) (uc kk y.key y.val (uc kk x.key x.val kv));rw[Di u4 x u5 (P3 h) (λz hz=>hk z (by simp[hz])),Uu (hk y d8).symm h]
def LM{a:Int}:∀(ks:List AV)(i:Nat),(∀y∈ks,∃n,y=.int kk n/\n≠a)->ow .i (.int kk a) ks i=some none
 | [],_,_=>rfl
 | y::ys,i,h=>by
   obtain⟨n,rfl,hn⟩:=h _ (List.mem_cons_self ..);have cD:(a==n)=false:=by simpa using Ne.symm hn
   simp only[ow,jZ,if_true,cD,bW,if_false];exact LM ys (i+1) λy hy=>h y (by simp[hy])
def set_set(U:St)(b:Nat)(x y:Live):(U.set b x).set b y=U.set b y:=by
 simp only[St.set,St.mk.injEq,and_true];funext q;split<;>rfl
def agX(U:St)(b:Nat)(ks vs:List AV):(U.set b (.mp ks vs)).mp b=some (ks,vs):=by simp[St.mp,St.set]
section
variable {C:dQ}{mu:List Nat}{ops:Array Oper}{B:List Nat}{aj:St}{K:Env->St->Prop}{Kp:am}
def ahP(C:dQ)(ops:Array Oper)(ρ:Env)(t:TypeId)(m:Nat)(kk:IntKind)(listed:Array Bool)(x:zx):Prop:=∃o v,ops[x.i]?=some o/\o.op=.insert t (.tmp m) (.const (.int kk x.key)) v/\o.dst=none/\o.guard=none/\ρ.ev C v=x.val /\
 ∀e∈o.after,Region.binds .any e->listed.getD e.on false
def afQ(ops:Array Oper)(listed:Array Bool)(l:List zx):Prop:=∀j o,ops[j]?=some o->listed.getD j true=false->(∃x∈l,x.i=j)\/∀x∈l,∃e∈o.after,Region.binds .any e/\e.on=x.i
def aeF{t:TypeId}{m:Nat}{kk:IntKind}{e:TypeId}(ht:uf C.P t=some (.i,e)){ρ:Env}(hm:ρ.get m=.mp id)(hB:id∉B)(mm:Nat):∀(n:Nat)(l:List zx)(listed:Array Bool)(U:St)(kv:List AV×List AV),l.length=n ->
 (∀x∈l,listed.getD x.i true=false)->afQ ops listed l->l.Pairwise (λx y=>x.i≠y.i/\x.key≠y.key)->(∀x∈l,ahP C ops ρ t m kk listed x)->dR B aj U->CG kk kv ->
 (∀x∈l,.int kk x.key∉kv.1)->(∀pg:Array Bool,pg.size=listed.size->(∀j,pg.getD j true=false↔listed.getD j true=false/\¬ ∃x∈l,x.i=j)->o7 C mu ops (dR B aj) K Kp mm pg ρ (U.set id (.mp (sH kk l kv).1 (sH kk l kv).2))) ->
 o7 C mu ops (dR B aj) K Kp (n+mm) listed ρ (U.set id (.mp kv.1 kv.2)):=by
 intro n
 induction n with
 | zero =>
   intro l listed U kv hl GY Aq hp dG hI sF iV hK;obtain rfl:l=[]:=List.eq_nil_of_length_eq_zero hl;rw[cK];exact hK listed rfl λj=>by simp
 | succ n ih =>
   intro l listed U kv hl GY Aq hp dG hI sF iV hK;have Mv:∀x∈l,x.i∈Region.ready .any ops listed:=λx hx=>by
    obtain⟨o,v,h1,_,_,_,_,h6⟩:=dG x hx;exact mem_ready.2 ⟨GY x hx,o,h1,h6⟩
   rw[show n+1+mm=(n+mm)+1 by omega];refine⟨λh=>?_,λj hj=>?_⟩
   . obtain⟨x,l',rfl⟩:∃x l',l=x::l':=by cases l with|nil=>simp at hl|cons x l'=>exact⟨x,l',rfl⟩
     have:=Mv x d8;rw[h]at this;cases this
   . obtain⟨x,hx,rfl⟩:∃x∈l,x.i=j:=by
      obtain⟨h0,oj,qZ,cg⟩:=mem_ready.1 hj;rcases Aq j oj qZ h0 with h|h
      . exact h
      . exfalso;obtain⟨x,l',rfl⟩:∃x l',l=x::l':=by cases l with|nil=>simp at hl|cons x l'=>exact⟨x,l',rfl⟩
        obtain⟨ed,he,hb,G3⟩:=h x d8;have k1:=cg ed he hb;rw[G3]at k1;have k2:=GY x d8;rcases ik x.i listed.size with h'|h'
        . simp[h']at k1 k2;rw[k2]at k1;cases k1
        . simp[B1 h']at k1
     obtain⟨o,v,h1,h2,h3,h4,h5,h6⟩:=dG x hx;obtain⟨u4,u5,rfl⟩:=List.append_of_mem hx;have hpa:=hp;rw[List.pairwise_append]at hp;obtain⟨p1,p2,p3⟩:=hp;rw[List.pairwise_cons]at p2;have Ry:ow .i (.int kk x.key) kv.1 0=some none:=LM _ _ λy hy=>by
      obtain⟨n,rfl⟩:=sF.2 y hy;exact⟨n,rfl,λe=>iV x hx (by rw[<-e];exact hy)⟩
     unfold nX;rw[h1];dsimp only;rw[h4,h2,h3];refine⟨λ_=>?_,λh=>by cases h⟩;have hop:mj C (qC mu o) (.insert t (.tmp m) (.const (.int kk x.key)) v) ρ (U.set id (.mp kv.1 kv.2))=.kg (.az []) id (.mp (uc kk x.key x.val kv).1 (uc kk x.key x.val kv).2):=by
      show ug C.P t (ρ.ev C (.tmp m)) (ρ.ev C (.const (.int kk x.key))) (ρ.ev C v) _=_;rw[h5,show ρ.ev C (.tmp m)=.mp id from hm,show ρ.ev C (.const (.int kk x.key))=.int kk x.key from rfl];simp only[ug,ht,agX,Ry,sR,uc]
     rw[hop];refine⟨.inr λb hb=>?_,?_⟩
     . have cD:b≠id:=λe=>hB (e▸hb);rw[set_set];simp only[St.set,if_neg cD];exact hI b hb
     . show o7 C mu ops (dR B aj) K Kp (n+mm) (listed.setIfInBounds x.i true) ρ _;rw[set_set];have aA:x.i<listed.size:=by
        have h0:=GY x hx;rcases ik x.i listed.size with h|h
        . exact h
        . simp[B1 h]at h0
       have adg:(listed.setIfInBounds x.i true).getD x.i true:=by simp[aA]
       have ra:∀y∈u4++u5,y∈u4++x::u5:=λy hy=>by
        simp only[gV,dy]at hy ⊢;rcases hy with hy|hy
        . exact .inl hy
        . exact .inr (.inr hy)
       have cD:∀y∈u4++u5,x.i≠y.i:=λy hy=>by
        rcases gV.1 hy with hy|hy
        . exact (p3 y hy x d8).1.symm
        . exact (p2.1 y hy).1
       refine ih (u4++u5) (listed.setIfInBounds x.i true) U (uc kk x.key x.val kv) ?_ ?_ ?_ ?_ ?_ hI (P3 sF) ?_ ?_
       . simp at hl ⊢;omega
       . intro y hy;rw[getD_set_ne true (cD y hy)];exact GY y (ra y hy)
       . intro j oj qZ h0;have hjx:x.i≠j:=λe=>by subst e;rw[adg]at h0;cases h0
         rw[getD_set_ne true hjx]at h0;rcases Aq j oj qZ h0 with ⟨y,hy,rfl⟩|h
         . left;refine⟨y,?_,rfl⟩;simp only[gV,dy]at hy ⊢;rcases hy with hy|rfl|hy
           . exact .inl hy
           . exact absurd rfl hjx
           . exact .inr hy
         . right;exact λy hy=>h y (ra y hy)
       . rw[List.pairwise_append];exact⟨p1,p2.2,λy hy z hz=>p3 y hy z (by simp[hz])⟩
       . intro y hy;obtain⟨o',v',q1,q2,q3,q4,q5,q6⟩:=dG y (by simp only[gV,dy]at hy ⊢;rcases hy with hy|hy;exact .inl hy;exact .inr (.inr hy))
         exact⟨o',v',q1,q2,q3,q4,q5,λed he hb=>getD_set_true (q6 ed he hb)⟩
       . intro y hy pK;rcases By _ _ _ pK with e|e
         . simp only[AV.int.injEq,true_and]at e;rcases gV.1 hy with hy|hy
           . exact (p3 y hy x d8).2 e
           . exact (p2.1 y hy).2 e.symm
         . exact iV y (by simp only[gV,dy]at hy ⊢;rcases hy with hy|hy;exact .inl hy;exact .inr (.inr hy)) e
       . rw[<-Di u4 x u5 sF (λy hy=>(p3 y hy x d8).2)];intro pg fj yT;refine hK pg (by rw[fj];simp) λj=>?_;rw[yT j]
         by_cases e:x.i=j
         . subst e;rw[adg];constructor
           . rintro⟨h,_⟩;cases h
           . rintro⟨_,h⟩;exact absurd ⟨x,d8,rfl⟩ h
         . rw[getD_set_ne true e];refine and_congr_right λ_=>not_congr ?_;constructor
           . rintro⟨y,hy,rfl⟩;exact⟨y,ra y hy,rfl⟩
           . rintro⟨y,hy,rfl⟩;refine⟨y,?_,rfl⟩;simp only[gV,dy]at hy ⊢;rcases hy with hy|rfl|hy
             . exact .inl hy
             . exact absurd rfl e
             . exact .inr hy
def rk(ops:Array Oper):List (Bool×Nat)->Array Bool->Option (Array Bool)
 | [],listed=>some listed
 | (true,i)::r,listed=>cond ((Region.ready .any ops listed).contains i&&Region.free .any ops listed i) (rk ops r (listed.setIfInBounds i true)) none
 | (false,i)::r,listed=>cond (Region.ready .any ops listed==[i]&&!qL ops i) (rk ops r (listed.setIfInBounds i true)) none
def BR{m:Nat}{tS:Array Bool}{K0:Env->St->Prop}(xT:∀ρ U,Dn ops tS->dR B aj U->K0 ρ U->o7 C mu ops (dR B aj) K Kp m tS ρ U):∀(ey:List (Bool×Nat))(listed:Array Bool)(ρ:Env)(U:St),rk ops ey listed=some tS->Dn ops listed->dR B aj U->oz C mu ops B aj K0 Kp ey ρ U ->
 o7 C mu ops (dR B aj) K Kp (ey.length+m) listed ρ U
 | [],listed,ρ,U,hp,hD,hI,h=>by
   simp only[rk,kP]at hp;subst hp;simpa using xT ρ U hD hI h
 | (true,i)::r,listed,ρ,U,hp,hD,hI,h=>by
   simp only[rk]at hp;cases hc:((Region.ready .any ops listed).contains i&&Region.free .any ops listed i) with
   | false=>rw[hc]at hp;cases hp
   | true =>
     rw[hc]at hp;simp only[cS]at hc;obtain⟨o,v,ho,ji,hr⟩:=h;have:=Gt ho (r.length+m) listed ρ U (Region.free_spec ho hc.2) (by simpa using hc.1) hD ji hI (BR xT r _ _ U hp (hD.set (by simpa using hc.1)) hI hr);rw[show ((true,i)::r).length+m=r.length+m+1 by simp;omega];exact this
 | (false,i)::r,listed,ρ,U,hp,hD,hI,h=>by
   simp only[rk]at hp;cases hc:(Region.ready .any ops listed==[i]&&!qL ops i) with
   | false=>rw[hc]at hp;cases hp
   | true =>
     rw[hc]at hp;simp only[cS,beq_iff_eq,Bool.not_eq_true']at hc;obtain⟨hc,Uf⟩:=hc;rw[show ((false,i)::r).length+m=r.length+m+1 by simp;omega];refine⟨λh0=>(by rw[hc]at h0;cases h0),λj hj=>?_⟩;have Ju:=hj;rw[hc,lT]at hj;subst hj;exact HE (.inr hI) (λfI aa GO hr=>BR xT r _ fI aa hp (hD.set Ju) (GO.resolve_left (by rw[Uf];simp)) hr) h
structure qy where
 t:TypeId
 m:Nat
 kk:IntKind
 l:List Nat
def RH(I:qy)(o:Oper):Option (Int×Operand):=match o.op,o.dst,o.guard with
 | .insert t (.tmp m) (.const (.int kk a)) v,none,none=>cond (Nat.beq t I.t&&(Nat.beq m I.m&&decide (kk=I.kk))) (some (a,v)) none
 | _,_,_=>none
def pd(ops:Array Oper)(I:qy)(i:Nat):Option (Int×Operand):=(ops[i]?).bind (RH I)
def KP(listed:Array Bool)(o:Oper):Bool:=o.after.toList.all λe=>!Region.binds .any e||listed.getD e.on false
def H4(ops:Array Oper)(I:qy)(listed:Array Bool):Bool:=(List.range ops.size).all λj=>listed.getD j true||(I.l.contains j||(match ops[j]? with
 | some o=>I.l.all λi=>o.after.toList.any λe=>Region.binds .any e&&Nat.beq e.on i
 | none=>true))
def tG(ops:Array Oper)(I:qy)(listed:Array Bool):Bool :=
 H4 ops I listed&&(I.l.all (λi=>!listed.getD i true)&&(Nat.beq listed.size ops.size&&(I.l.all (λi=>Nat.blt i ops.size&&((pd ops I i).isSome&&(match ops[i]? with|some o=>KP listed o|none=>false)))
  && (decide I.l.Nodup&&decide (I.l.map λi=>((pd ops I i).map (·.1)).getD 0).Nodup))))
def jy(listed:Array Bool)(l:List Nat):Array Bool:=l.foldl (λa i=>a.setIfInBounds i true) listed
def zT:∀(l:List Nat)(a:Array Bool),(jy a l).size=a.size
 | [],_=>rfl
 | i::l,a=>by
   show (jy (a.setIfInBounds i true) l).size=_;rw[zT l];simp
def B5:∀(l:List Nat)(a:Array Bool)(j:Nat),(jy a l).getD j true=false↔a.getD j true=false/\j∉l
 | [],_,_=>by simp[jy]
 | i::l,a,j=>by
   show (jy (a.setIfInBounds i true) l).getD j true=false↔_;rw[B5 l]
   by_cases e:i=j
   . subst e;have:(a.setIfInBounds i true).getD i true:=by
      by_cases h:i<a.size
      . simp[h]
      . simp[B1 (Nat.le_of_not_lt h)]
     rw[this];simp
   . rw[getD_set_ne true e];simp[Ne.symm e]
def qq(C:dQ)(ops:Array Oper)(ρ:Env)(I:qy):List zx:=I.l.filterMap λi=>(pd ops I i).map λp=>⟨i,p.1,ρ.ev C p.2⟩
def RG(C:dQ)(ops:Array Oper)(B:List Nat)(I:qy)(K:Env->St->Prop)(ρ:Env)(U:St):Prop :=
 ∃id,ρ.get I.m=.mp id/\U.mp id=some ([],[])/\id∉B/\K ρ (U.set id (.mp (sH I.kk (qq C ops ρ I) ([],[])).1 (sH I.kk (qq C ops ρ I) ([],[])).2))
def RI{I:qy}{a:Int}{v:Operand}(h:RH I o=some (a,v)):o.op=.insert I.t (.tmp I.m) (.const (.int I.kk a)) v/\o.dst=none/\o.guard=none:=by
 unfold RH at h;split at h
 . rename_i t m kk a' v' h1 h2 h3;cases hc:(Nat.beq t I.t&&(Nat.beq m I.m&&decide (kk=I.kk))) with
   | false=>rw[hc]at h;cases h
   | true =>
     rw[hc]at h;simp only[cS,dU]at hc;obtain⟨e1,e2,e3⟩:=hc;have e1:=gN e1;have e2:=gN e2;simp only[cond_true,kP,jK]at h;obtain⟨rfl,rfl⟩:=h;exact⟨by rw[h1,e1,e2,e3],h2,h3⟩
 . cases h
def O3{U:St}{kv:List AV×List AV}(h:U.mp id=some kv):U.set id (.mp kv.1 kv.2)=U:=by
 have:=St.sK.1 h;simp only[St.set];cases U with
 | mk live nb =>
   simp only[St.mk.injEq,and_true];funext q;split
   . rename_i e;subst e;exact this.symm
   . rfl
def Dn.jy{I:qy}{listed:Array Bool}(hD:Dn ops listed)(hc:tG ops I listed):Dn ops (Go.Rip.jy listed I.l):=by
 simp only[tG,cS,fQ]at hc;obtain⟨h0,h1,h2,h3,_⟩:=hc;have h2:=gN h2;have mono:∀(l:List Nat)(a:Array Bool)(j:Nat),a.getD j false->(Go.Rip.jy a l).getD j false:=λl=>by
  induction l with
  | nil=>exact λa j h=>h
  | cons i l ih=>exact λa j h=>ih _ j (getD_set_true h)
 intro m o ho hl e he hb
 by_cases hm:m∈I.l
 . have:=(h3 m hm).2.2;rw[ho]at this;simp only[KP,fQ,ml]at this;have:=this e (by simpa using he);rw[hb]at this;exact mono _ _ _ (by simpa using this)
 . have aA:m<listed.size:=by rw[h2];exact (nN.1 ho).1
   have hlm:listed.getD m false:=by
    cases hh:listed.getD m true with
    | false =>
      have k:=(B5 I.l listed m).2 ⟨hh,hm⟩;have hs:m<(Go.Rip.jy listed I.l).size:=by rw[zT];exact aA
      simp[hs]at k hl;rw[k]at hl;cases hl
    | true=>simp[aA]at hh ⊢;exact hh
   exact mono _ _ _ (hD m o ho hlm e he hb)
def Uv{I:qy}{listed:Array Bool}{e:TypeId}{mm:Nat}{K1:Env->St->Prop}(ht:uf C.P I.t=some (.i,e))(hc:tG ops I listed)
 (hK1:∀ρ U,Dn ops (jy listed I.l)->dR B aj U->K1 ρ U->o7 C mu ops (dR B aj) K Kp mm (jy listed I.l) ρ U):∀ρ U,Dn ops listed->dR B aj U->RG C ops B I K1 ρ U->o7 C mu ops (dR B aj) K Kp (I.l.length+mm) listed ρ U:=by
 rintro ρ U hD hI ⟨id,hm,Mm,hB,hK⟩;have hDs:=hD.jy hc;simp only[tG,cS,fQ,dU,Bool.not_eq_true']at hc;obtain⟨h0,h1,h2,h3,h4,h5⟩:=hc;have h2:=gN h2;have RD:∀i∈I.l,∃a v,pd ops I i=some (a,v):=λi hi=>by
  have:=(h3 i hi).2.1;obtain⟨p,hp⟩:=Option.isSome_iff_exists.1 this;exact⟨p.1,p.2,hp⟩
 have pK:∀x,x∈qq C ops ρ I↔∃i∈I.l,∃a v,pd ops I i=some (a,v)/\x=⟨i,a,ρ.ev C v⟩:=λx=>by
  simp only[qq,List.mem_filterMap,so];constructor
  . rintro⟨i,hi,⟨a,v⟩,hp,rfl⟩;exact⟨i,hi,a,v,hp,rfl⟩
  . rintro⟨i,hi,a,v,hp,rfl⟩;exact⟨i,hi,(a,v),hp,rfl⟩
 have nx:∀j,(∃x∈qq C ops ρ I,x.i=j)↔j∈I.l:=λj=>by
  constructor
  . rintro⟨x,hx,rfl⟩;obtain⟨i,hi,a,v,hp,rfl⟩:=(pK _).1 hx;exact hi
  . intro hj;obtain⟨a,v,hp⟩:=RD j hj;exact⟨_,(pK _).2 ⟨j,hj,a,v,hp,rfl⟩,rfl⟩
 rw[<-O3 Mm];have hlen:(qq C ops ρ I).length=I.l.length:=by
  have:∀l:List Nat,(∀i∈l,∃a v,pd ops I i=some (a,v))->(l.filterMap λi=>(pd ops I i).map λp=>(⟨i,p.1,ρ.ev C p.2⟩:zx)).length=l.length:=λl=>by
   induction l with
   | nil=>intro _;rfl
   | cons i l ih =>
     intro h;obtain⟨a,v,hp⟩:=h i d8;simp only[List.filterMap_cons,hp,Option.map_some,jm,ih λj hj=>h j (by simp[hj])]
  exact this _ RD
 have hpw:(qq C ops ρ I).Pairwise (λx y=>x.i≠y.i/\x.key≠y.key):=by
  have:∀l:List Nat,(∀i∈l,∃a v,pd ops I i=some (a,v))->l.Nodup->(l.map λi=>((pd ops I i).map (·.1)).getD 0).Nodup->(l.filterMap λi=>(pd ops I i).map λp=>(⟨i,p.1,ρ.ev C p.2⟩:zx)).Pairwise (λx y=>x.i≠y.i/\x.key≠y.key):=λl=>by
   induction l with
   | nil=>intro _ _ _;exact List.Pairwise.nil
   | cons i l ih =>
     intro h hn hk;obtain⟨a,v,hp⟩:=h i d8;rw[List.nodup_cons]at hn;rw[fh,List.nodup_cons]at hk;simp only[List.filterMap_cons,hp,Option.map_some];refine List.Pairwise.cons (λy hy=>?_) (ih (λj hj=>h j (by simp[hj])) hn.2 hk.2);rw[List.mem_filterMap]at hy;obtain⟨j,hj,hjy⟩:=hy;rw[so]at hjy;obtain⟨p,tZ,rfl⟩:=hjy;refine⟨λe=>hn.1 (by have e:i=j:=e;rw[e];exact hj),λe=>hk.1 ?_⟩;have e:a=p.1:=e;refine List.mem_map.2 ⟨j,hj,?_⟩;rw[tZ,hp];simp[e]
  exact this _ RD h4 h5
 refine aeF (kk:=I.kk) ht hm hB mm _ (qq C ops ρ I) listed U ([],[]) hlen ?_ ?_ hpw ?_ hI ⟨rfl,λy hy=>by cases hy⟩ (λx hx=>by simp) ?_
 . intro x hx;exact h1 x.i ((nx x.i).1 ⟨x,hx,rfl⟩)
 . intro j o ho hj;have aA:j<ops.size:=(nN.1 ho).1;simp only[H4,fQ,List.mem_range,ml]at h0;have:=h0 j aA;rw[ho,hj]at this;rcases this with h|h|h
   . cases h
   . left;exact (nx j).2 (by simpa using h)
   . right;intro x hx;simp only[fQ]at h;have:=h x.i ((nx x.i).1 ⟨x,hx,rfl⟩);rw[List.any_eq_true]at this;obtain⟨ed,he,hb⟩:=this;simp only[cS]at hb;exact⟨ed,by simpa using he,hb.1,gN hb.2⟩
 . intro x hx;obtain⟨i,hi,a,v,hp,rfl⟩:=(pK _).1 hx;unfold pd at hp;rw[Option.bind_eq_some_iff]at hp;obtain⟨o,ho,hp⟩:=hp;obtain⟨q1,q2,q3⟩:=RI hp;refine⟨o,v,ho,q1,q2,q3,rfl,λed he hb=>?_⟩;have:=(h3 i hi).2.2;rw[ho]at this;simp only[KP,fQ,ml]at this;have:=this ed (by simpa using he);rw[hb]at this;simpa using this
 . intro pg fj yT;have e:pg=jy listed I.l:=by
    apply Array.ext (by rw[zT,fj]);intro j yS p7;have k1:=yT j;have k2:=B5 I.l listed j;rw[nx]at k1;have k3:pg.getD j true=false↔(jy listed I.l).getD j true=false:=k1.trans k2.symm;have e1:pg.getD j true=pg[j]:=by simp[yS]
    have e2:(jy listed I.l).getD j true=(jy listed I.l)[j]:=by simp[p7]
    rw[e1,e2]at k3;cases h1:pg[j]<;>cases h2:(jy listed I.l)[j]<;>simp_all
   rw[e];refine hK1 ρ _ hDs ?_ hK;intro b hb;have cD:b≠id:=λe=>hB (e▸hb);simp only[St.set,if_neg cD];exact hI b hb
def zf(P:Program)(ops:Array Oper)(ey:List (Bool×Nat))(I:qy)(post:List (Bool×Nat)):Bool :=
 (match rk ops ey (Array.replicate ops.size false) with|some l=>tG ops I l&&kM ops post (jy l I.l)|none=>false)&&(Nat.beq (ey.length+(I.l.length+post.length)) ops.size&&(match uf P I.t with|some (.i,_)=>true|_=>false))
def cu.Vu{nt id:Nat}{ro:Ro}{Q:Ex->Env->St->Prop}{ρ:Env}{U:St}(ey:List (Bool×Nat))(I:qy)(post:List (Bool×Nat))(hm:C.P.follows .mixedOrders)(dG:nW nt ops)(hp:zf C.P ops ey I post)
 (h:oz C mu ops B U (RG C ops B I (oz C mu ops B U (KQ Q) (Cj Q) post)) (Cj Q) ey ρ U):cu C nt ro (.region id ops true) Q ρ U:=by
 simp only[zf,cS]at hp;obtain⟨h1,h2,h3⟩:=hp;have h2:=gN h2;split at h3
 . rename_i e ht;split at h1
   . rename_i l hl;rw[cS]at h1;refine cu.DN mu (dR B U) hm dG ?_;have:=BR (Uv ht h1.1 (λfI aa hD' GO hk=>wo post _ fI aa h1.2 hD' (.inr GO) hk)) ey _ ρ U hl (Dn.none _ _) (λ_ _=>rfl) h;rw[h2]at this;exact this
   . cases h1
 . cases h3
end
structure Row where
 d:Nat
 l:Nat
 a:Nat
def Q3:Option Nat->Nat
 | some d=>2 ^ d
 | none=>0
def sS:List Nat->Nat
 | []=>0
 | d::l=>Nat.lor (2 ^ d) (sS l)
def fC(k:Nat):∀l:List Nat,(sS l).testBit k=true↔k∈l
 | []=>by simp[sS]
 | d::l=>by
   show (2 ^ d ||| sS l).testBit k=true↔_;rw[Nat.testBit_or,Nat.testBit_two_pow,ml,fC k l];simp[eq_comm]
def mw(k:Nat)(o:Option Nat):(Q3 o).testBit k=true↔o=some k:=by
 cases o with
 | none=>simp[Q3]
 | some d=>simp[Q3,Nat.testBit_two_pow]
def CJ(o:Oper):List Nat:=(o.after.toList.filter λe=>Region.binds .any e).map (·.on)
def rowOf(ops:Array Oper)(o:Oper):Row:=⟨Q3 o.dst,sS (o.looksAt ops),sS (CJ o)⟩
def pS(a b:Nat):Bool:=Nat.beq (Nat.land a b) a
def Rb(a b:Nat):Bool:=Nat.beq (Nat.land a b) 0
def wz{a:Nat}(h:pS a b)(k:Nat)(hk:a.testBit k):b.testBit k:=by
 have e:a &&& b=a:=gN h;have:=congrArg (λn=>n.testBit k) e;simp only[Nat.testBit_and,hk,Bool.true_and]at this;exact this
def tu{a:Nat}(h:Rb a b)(k:Nat)(hk:a.testBit k):¬ b.testBit k:=by
 have e:a &&& b=0:=gN h;have:=congrArg (λn=>n.testBit k) e;simp only[Nat.testBit_and,hk,Bool.true_and,Nat.zero_testBit]at this;simp[this]
def hasB(m i:Nat):Bool:=Nat.beq (Nat.land (Nat.shiftRight m i) 1) 1
def qp(m i:Nat):hasB m i=m.testBit i:=by
 have e:Nat.land (Nat.shiftRight m i) 1=1 &&& (m >>> i):=Nat.and_comm _ _;unfold hasB Nat.testBit;rw[e];cases h:Nat.beq (1 &&& m >>> i) 1 with
 | true=>have:=gN h;rw[this];rfl
 | false =>
   have h1:(1 &&& m >>> i)≠1:=λe=>by rw[e]at h;simp at h
   have h2:(1 &&& m >>> i)=0:=by
    have:1 &&& (m >>> i)=(m >>> i)%2:=Nat.one_and_eq_mod_two _;omega
   rw[h2];rfl
def K7(i:Nat)(x y:Row):Bool:=hasB y.a i||(Rb x.d y.l&&(Rb x.d y.d&&Rb y.d x.l))
def FC(done i:Nat)(x:Row):List Row->Nat->Bool
 | [],_=>true
 | y::r,j=>(Nat.beq j i||(hasB done j||K7 i x y))&&FC done i x r (j+1)
def FB(done i:Nat):List Row->Nat->Bool
 | [],_=>true
 | y::r,j=>(Nat.beq j i||(hasB done j||!pS y.a done))&&FB done i r (j+1)
def BU(rows:List Row)(n:Nat):List (Bool×Nat)->Nat->Bool
 | [],done=>Nat.beq done (2 ^ n-1)
 | (true,i)::r,done=>match rows[i]? with
   | some x=>!hasB done i&&(pS x.a done&&(FC done i x rows 0&&BU rows n r (Nat.lor done (2 ^ i))))
   | none=>false
 | (false,i)::r,done=>match rows[i]? with
   | some x=>!hasB done i&&(pS x.a done&&(FB done i rows 0&&BU rows n r (Nat.lor done (2 ^ i))))
   | none=>false
def CL{done:Nat}{x:Row}:∀{l:List Row}{j:Nat},FC done i x l j->∀k y,l[k]?=some y->(j+k=i\/done.testBit (j+k)\/K7 i x y)
 | [],_,_,k,y,hy=>by simp at hy
 | z::r,j,h,k,y,hy=>by
   simp only[FC,cS,ml,qp]at h;cases k with
   | zero =>
     simp at hy;subst hy;rcases h.1 with h|h|h
     . exact .inl (gN h)
     . exact .inr (.inl h)
     . exact .inr (.inr h)
   | succ k =>
     have:=CL h.2 k y (by simpa using hy);rw[show j+(k+1)=j+1+k by omega];exact this
def CK{done:Nat}:∀{l:List Row}{j:Nat},FB done i l j->∀k y,l[k]?=some y->(j+k=i\/done.testBit (j+k)\/pS y.a done=false)
 | [],_,_,k,y,hy=>by simp at hy
 | z::r,j,h,k,y,hy=>by
   simp only[FB,cS,ml,qp,Bool.not_eq_true']at h;cases k with
   | zero =>
     simp at hy;subst hy;rcases h.1 with h|h|h
     . exact .inl (gN h)
     . exact .inr (.inl h)
     . exact .inr (.inr h)
   | succ k =>
     have:=CK h.2 k y (by simpa using hy);rw[show j+(k+1)=j+1+k by omega];exact this
def kB(n:Nat)(listed:Array Bool)(done:Nat):Prop:=listed.size=n/\∀k,k<n->listed[k]?=some (done.testBit k)
section
variable {ops:Array Oper}{listed:Array Bool}{done:Nat}
def kB.get(h:kB ops.size listed done)(hk:k<ops.size)(d:Bool):listed.getD k d=done.testBit k:=by
 have:=h.2 k hk;simp[this]
def kB.out(h:kB ops.size listed done)(hk:¬ k<ops.size)(d:Bool):listed.getD k d=d:=by
 have:listed[k]?=none:=B1 (by rw[h.1];omega);simp[this]
def kB.set(h:kB ops.size listed done)(i:Nat):kB ops.size (listed.setIfInBounds i true) (Nat.lor done (2 ^ i)):=by
 refine⟨by simp[h.1],λk hk=>?_⟩;show _=some ((done ||| 2 ^ i).testBit k);rw[Nat.testBit_or,Nat.testBit_two_pow]
 by_cases e:i=k
 . subst e;have:i<listed.size:=by rw[h.1];exact hk
   simp[Array.getElem?_setIfInBounds,this]
 . rw[Array.getElem?_setIfInBounds_ne e,h.2 k hk];simp[e]
def B4{x:Row}(h:(ops.toList.map (rowOf ops))[i]?=some x):∃o,ops[i]?=some o/\x=rowOf ops o:=by
 rw[po,so]at h;obtain⟨o,ho,e⟩:=h;exact⟨o,by simpa using ho,e.symm⟩
def xy{o:Oper}:k∈CJ o↔∃e∈o.after,Region.binds .any e/\e.on=k:=by
 simp[CJ,and_assoc]
def tK(h:kB ops.size listed done){j:Nat}(ho:ops[j]?=some o):j∈Region.ready .any ops listed↔done.testBit j=false/\∀k,k∈CJ o->k<ops.size/\done.testBit k:=by
 have hj:j<ops.size:=(nN.1 ho).1;rw[mem_ready,h.get hj];refine and_congr_right λ_=>⟨?_,?_⟩
 . rintro⟨o',ho',cg⟩ k hk;rw[ho]at ho';cases ho';obtain⟨e,he,hb,rfl⟩:=xy.1 hk;have:=cg e he hb
   by_cases hk:e.on<ops.size
   . rw[h.get hk]at this;exact⟨hk,this⟩
   . rw[h.out hk]at this;cases this
 . intro cg;refine⟨o,ho,λe he hb=>?_⟩;obtain⟨hk,ht⟩:=cg e.on (xy.2 ⟨e,he,hb,rfl⟩);rw[h.get hk];exact ht
def KL(hm:kB ops.size listed done)(ho:ops[i]?=some o)(h3:FC done i (rowOf ops o) (ops.toList.map (rowOf ops)) 0):Region.free .any ops listed i:=by
 simp only[Region.free,ho,fQ,List.mem_range,ml];intro j hj;obtain⟨oj,qZ⟩:∃oj,ops[j]?=some oj:=⟨ops[j],by simp[hj]⟩;rw[qZ];have hy:(ops.toList.map (rowOf ops))[j]?=some (rowOf ops oj):=by
  rw[po];simp[qZ]
 rcases CL h3 j _ hy with e|e|e
 . left;left;simp at e;simp[e]
 . left;right;rw[hm.get hj];simpa using e
 . right;simp only[K7,ml,cS,qp]at e;show ((oj.after.any λe=>Region.binds .any e&&e.on==i)||o.apart ops oj)=true;rw[ml];rcases e with e|⟨e1,e2,e3⟩
   . left;have:=(fC i _).1 e;obtain⟨ed,he,hb,G3⟩:=xy.1 this;rw[Array.any_eq_true'];exact⟨ed,he,by simp[hb,G3]⟩
   . right;have k1:∀d,o.dst=some d->d∉oj.looksAt ops:=λd hd hm=>tu e1 d ((mw d _).2 hd) ((fC d _).2 hm);have k2:∀d,o.dst=some d->oj.dst≠some d:=λd hd hm=>tu e2 d ((mw d _).2 hd) ((mw d _).2 hm);have k3:∀d,oj.dst=some d->d∉o.looksAt ops:=λd hd hm=>tu e3 d ((mw d _).2 hd) ((fC d _).2 hm);unfold Oper.apart;cases EY:o.dst<;>cases tF:oj.dst<;>simp only[cS,Bool.not_eq_true',bne_iff_ne,ne_eq,Bool.and_self,and_self,true_and,and_true]
     . rename_i d;simpa using k3 d tF
     . rename_i d;exact⟨by simpa using k1 d EY,d8⟩
     . rename_i d d';refine⟨⟨by simpa using k1 d EY,λe=>k2 d EY (by rw[tF];exact e)⟩,by simpa using k3 d' tF⟩
def DM(hm:kB ops.size listed done)(ho:ops[i]?=some o)(h1:done.testBit i=false)(sub:∀k,k∈CJ o->k<ops.size/\done.testBit k)(h3:FB done i (ops.toList.map (rowOf ops)) 0):Region.ready .any ops listed=[i]:=by
 have key:∀j,j∈Region.ready .any ops listed->j=i:=λj hj=>by
  obtain⟨h0,oj,qZ,_⟩:=mem_ready.1 hj;have hr:=(tK hm qZ).1 hj;have Me:j<ops.size:=(nN.1 qZ).1;have hy:(ops.toList.map (rowOf ops))[j]?=some (rowOf ops oj):=by
   rw[po];simp[qZ]
  rcases CK h3 j _ hy with e|e|e
  . simpa using e
  . rw[cK]at e;rw[hr.1]at e;cases e
  . exfalso;have:pS (rowOf ops oj).a done:=by
     unfold pS;have e2:(rowOf ops oj).a &&& done=(rowOf ops oj).a:=by
      apply Nat.eq_of_testBit_eq;intro k;rw[Nat.testBit_and];cases hk:(rowOf ops oj).a.testBit k with
      | false=>rfl
      | true=>rw[(hr.2 k ((fC k _).1 hk)).2];rfl
     show Nat.beq ((rowOf ops oj).a &&& done) _=true;rw[e2];simp
    rw[this]at e;cases e
 have pK:=(tK hm ho).2 ⟨h1,sub⟩;have hnd:(Region.ready .any ops listed).Nodup:=(List.Pairwise.filter _ List.nodup_range)
 match hl:Region.ready .any ops listed with
 | []=>rw[hl]at pK;cases pK
 | [x]=>rw[hl]at key;rw[key x d8]
 | x::y::zs =>
   rw[hl]at key hnd;have e1:=key x d8;have e2:=key y d8;subst e1;subst e2;simp at hnd
def BV:∀(ey:List (Bool×Nat))(listed:Array Bool)(done:Nat),kB ops.size listed done->done<2 ^ ops.size->BU (ops.toList.map (rowOf ops)) ops.size ey done->kM ops ey listed
 | [],listed,done,hm,aA,h=>by
   have e:done=2 ^ ops.size-1:=gN h;simp only[kM,List.isEmpty_iff];rw[List.eq_nil_iff_forall_not_mem];intro j hj;obtain⟨h0,o,ho,_⟩:=mem_ready.1 hj;have Me:j<ops.size:=(nN.1 ho).1;rw[hm.get Me,e,Nat.testBit_two_pow_sub_one]at h0;simp[Me]at h0
 | (true,i)::r,listed,done,hm,aA,h=>by
   simp only[BU]at h;split at h
   . rename_i x hx;obtain⟨o,ho,rfl⟩:=B4 hx;simp only[cS,Bool.not_eq_true',qp]at h;obtain⟨h1,h2,h3,h4⟩:=h;have hi:i<ops.size:=(nN.1 ho).1;have ng:Nat.lor done (2 ^ i)<2 ^ ops.size:=Nat.or_lt_two_pow aA (Nat.pow_lt_pow_right d6 hi);have sub:∀k,k∈CJ o->k<ops.size/\done.testBit k:=λk hk=>by
      have:=wz h2 k ((fC k _).2 hk);refine⟨?_,this⟩;rcases ik k ops.size with h|h
      . exact h
      . rw[Nat.testBit_lt_two_pow (Nat.lt_of_lt_of_le aA (Nat.pow_le_pow_right d6 h))]at this;cases this
     simp only[kM,cS];refine⟨⟨?_,?_⟩,BV r _ _ (hm.set i) ng h4⟩
     . simp only[List.contains_iff_mem];exact (tK hm ho).2 ⟨h1,sub⟩
     . simp only[Region.free,ho,fQ,List.mem_range,ml];intro j hj;obtain⟨oj,qZ⟩:∃oj,ops[j]?=some oj:=⟨ops[j],by simp[hj]⟩;rw[qZ];have hy:(ops.toList.map (rowOf ops))[j]?=some (rowOf ops oj):=by
        rw[po];simp[qZ]
       rcases CL h3 j _ hy with e|e|e
       . left;left;simp at e;simp[e]
       . left;right;rw[hm.get hj];simpa using e
       . right;simp only[K7,ml,cS,qp]at e;show ((oj.after.any λe=>Region.binds .any e&&e.on==i)||o.apart ops oj)=true;rw[ml];rcases e with e|⟨e1,e2,e3⟩
         . left;have:=(fC i _).1 e;obtain⟨ed,he,hb,G3⟩:=xy.1 this;rw[Array.any_eq_true'];exact⟨ed,he,by simp[hb,G3]⟩
         . right;have k1:∀d,o.dst=some d->d∉oj.looksAt ops:=λd hd hm=>tu e1 d ((mw d _).2 hd) ((fC d _).2 hm);have k2:∀d,o.dst=some d->oj.dst≠some d:=λd hd hm=>tu e2 d ((mw d _).2 hd) ((mw d _).2 hm);have k3:∀d,oj.dst=some d->d∉o.looksAt ops:=λd hd hm=>tu e3 d ((mw d _).2 hd) ((fC d _).2 hm);unfold Oper.apart;cases EY:o.dst<;>cases tF:oj.dst<;>simp only[cS,Bool.not_eq_true',bne_iff_ne,ne_eq,Bool.and_self,and_self,true_and,and_true]
           . rename_i d;simpa using k3 d tF
           . rename_i d;exact⟨by simpa using k1 d EY,d8⟩
           . rename_i d d';refine⟨⟨by simpa using k1 d EY,λe=>k2 d EY (by rw[tF];exact e)⟩,by simpa using k3 d' tF⟩
   . cases h
 | (false,i)::r,listed,done,hm,aA,h=>by
   simp only[BU]at h;split at h
   . rename_i x hx;obtain⟨o,ho,rfl⟩:=B4 hx;simp only[cS,Bool.not_eq_true',qp]at h;obtain⟨h1,h2,h3,h4⟩:=h;have hi:i<ops.size:=(nN.1 ho).1;have ng:Nat.lor done (2 ^ i)<2 ^ ops.size:=Nat.or_lt_two_pow aA (Nat.pow_lt_pow_right d6 hi);have sub:∀k,k∈CJ o->k<ops.size/\done.testBit k:=λk hk=>by
      have:=wz h2 k ((fC k _).2 hk);refine⟨?_,this⟩;rcases ik k ops.size with h|h
      . exact h
      . rw[Nat.testBit_lt_two_pow (Nat.lt_of_lt_of_le aA (Nat.pow_le_pow_right d6 h))]at this;cases this
     simp only[kM,cS,beq_iff_eq];refine⟨?_,BV r _ _ (hm.set i) ng h4⟩;have key:∀j,j∈Region.ready .any ops listed->j=i:=λj hj=>by
      obtain⟨h0,oj,qZ,_⟩:=mem_ready.1 hj;have hr:=(tK hm qZ).1 hj;have Me:j<ops.size:=(nN.1 qZ).1;have hy:(ops.toList.map (rowOf ops))[j]?=some (rowOf ops oj):=by
       rw[po];simp[qZ]
      rcases CK h3 j _ hy with e|e|e
      . simpa using e
      . rw[cK]at e;rw[hr.1]at e;cases e
      . exfalso;have:pS (rowOf ops oj).a done:=by
         unfold pS;have e2:(rowOf ops oj).a &&& done=(rowOf ops oj).a:=by
          apply Nat.eq_of_testBit_eq;intro k;rw[Nat.testBit_and];cases hk:(rowOf ops oj).a.testBit k with
          | false=>rfl
          | true=>rw[(hr.2 k ((fC k _).1 hk)).2];rfl
         show Nat.beq ((rowOf ops oj).a &&& done) _=true;rw[e2];simp
        rw[this]at e;cases e
     have pK:=(tK hm ho).2 ⟨h1,sub⟩;have hnd:(Region.ready .any ops listed).Nodup:=(List.Pairwise.filter _ List.nodup_range)
     match hl:Region.ready .any ops listed with
     | []=>rw[hl]at pK;cases pK
     | [x]=>rw[hl]at key;rw[key x d8]
     | x::y::zs =>
       rw[hl]at key hnd;have e1:=key x d8;have e2:=key y d8;subst e1;subst e2;simp at hnd
   . cases h
end
def Hw:List Row->List Row->Bool
 | [],[]=>true
 | x::xs,y::ys=>Nat.beq x.d y.d&&(Nat.beq x.l y.l&&(Nat.beq x.a y.a&&Hw xs ys))
 | _,_=>false
def F6:∀{a b:List Row},Hw a b=true->a=b
 | [],[],_=>rfl
 | x::xs,y::ys,h=>by
   simp only[Hw,cS]at h;obtain⟨h1,h2,h3,h4⟩:=h;obtain⟨a,b,c⟩:=x;obtain⟨a',b',c'⟩:=y;have e1:a=a':=gN h1;have e2:b=b':=gN h2;have e3:c=c':=gN h3;rw[e1,e2,e3,F6 h4]
 | [],_::_,h=>by cases h
 | _::_,[],h=>by cases h
structure Pl where
 steps:List (Bool×Nat)
 rows:List Row
def Nh(ops:Array Oper)(p:Pl):Bool:=Hw (ops.toList.map (rowOf ops)) p.rows&&(BU p.rows ops.size p.steps 0&&Nat.beq p.steps.length ops.size)
def IB{ops:Array Oper}{p:Pl}(h:Nh ops p):(kM ops p.steps (Array.replicate ops.size false)&&(p.steps.length==ops.size)):=by
 simp only[Nh,cS]at h;obtain⟨h1,h2,h3⟩:=h;rw[<-F6 h1]at h2;simp only[cS,beq_iff_eq];refine⟨BV _ _ 0 ⟨d8,λk hk=>by simp[hk]⟩ (Nat.two_pow_pos _) h2,gN h3⟩
def tJ(ops:Array Oper)(rows:List Row):List (Bool×Nat)->Nat->Option Nat
 | [],done=>some done
 | (true,i)::r,done=>match rows[i]? with
   | some x=>cond (!hasB done i&&(pS x.a done&&FC done i x rows 0)) (tJ ops rows r (Nat.lor done (2 ^ i))) none
   | none=>none
 | (false,i)::r,done=>match rows[i]? with
   | some x=>cond (!hasB done i&&(pS x.a done&&(FB done i rows 0&&!qL ops i))) (tJ ops rows r (Nat.lor done (2 ^ i))) none
   | none=>none
section
variable {ops:Array Oper}
def BW:∀(ey:List (Bool×Nat))(listed:Array Bool)(done dn:Nat),kB ops.size listed done->done<2 ^ ops.size->tJ ops (ops.toList.map (rowOf ops)) ey done=some dn ->
 ∃l,rk ops ey listed=some l/\kB ops.size l dn/\dn<2 ^ ops.size
 | [],listed,done,dn,hm,aA,h=>by
   simp only[tJ,kP]at h;subst h;exact⟨listed,rfl,hm,aA⟩
 | (b,i)::r,listed,done,dn,hm,aA,h=>by
   obtain⟨x,hx⟩:∃x,(ops.toList.map (rowOf ops))[i]?=some x:=by
    cases b<;>simp only[tJ]at h<;>split at h<;>first|exact⟨_,by assumption⟩|cases h
   obtain⟨o,ho,rfl⟩:=B4 hx;have hi:i<ops.size:=(nN.1 ho).1;have ng:Nat.lor done (2 ^ i)<2 ^ ops.size:=Nat.or_lt_two_pow aA (Nat.pow_lt_pow_right d6 hi);have sub:pS (rowOf ops o).a done->∀k,k∈CJ o->k<ops.size/\done.testBit k:=λh2 k hk=>by
    have:=wz h2 k ((fC k _).2 hk);refine⟨?_,this⟩;rcases ik k ops.size with h|h
    . exact h
    . rw[Nat.testBit_lt_two_pow (Nat.lt_of_lt_of_le aA (Nat.pow_le_pow_right d6 h))]at this;cases this
   cases b with
   | true =>
     simp only[tJ,hx]at h;cases hc:(!hasB done i&&(pS (rowOf ops o).a done&&FC done i (rowOf ops o) (ops.toList.map (rowOf ops)) 0)) with
     | false=>rw[hc]at h;cases h
     | true =>
       rw[hc,cond_true]at h;simp only[cS,Bool.not_eq_true',qp]at hc;obtain⟨l,k1,k2,k3⟩:=BW r _ _ dn (hm.set i) ng h;refine⟨l,?_,k2,k3⟩;have Mv:(Region.ready .any ops listed).contains i:=by
        simp only[List.contains_iff_mem];exact (tK hm ho).2 ⟨hc.1,sub hc.2.1⟩
       have KX:Region.free .any ops listed i:=KL hm ho hc.2.2;simp only[rk,Mv,KX,Bool.and_self,cond_true];exact k1
   | false =>
     simp only[tJ,hx]at h;cases hc:(!hasB done i&&(pS (rowOf ops o).a done&&(FB done i (ops.toList.map (rowOf ops)) 0&&!qL ops i))) with
     | false=>rw[hc]at h;cases h
     | true =>
       rw[hc,cond_true]at h;simp only[cS,Bool.not_eq_true',qp]at hc;obtain⟨l,k1,k2,k3⟩:=BW r _ _ dn (hm.set i) ng h;refine⟨l,?_,k2,k3⟩;have zF:Region.ready .any ops listed=[i]:=DM hm ho hc.1 (sub hc.2.1) hc.2.2.1;have Uf:qL ops i=false:=by simpa using hc.2.2.2
       simp only[rk,zF,Uf,eG,dS,Bool.and_self,cond_true];exact k1
def Q1(im:Nat)(done:Nat):List Row->Nat->Bool
 | [],_=>true
 | y::r,j=>(hasB done j||(hasB im j||pS im y.a))&&Q1 im done r (j+1)
def UD(ops:Array Oper)(rows:List Row)(I:qy)(done:Nat):Bool:=I.l.all λi=>!hasB done i&&((pd ops I i).isSome&&(match rows[i]? with|some x=>pS x.a done|none=>false))
def increasing:List Nat->Bool
 | a::b::l=>Nat.blt a b&&increasing (b::l)
 | _=>true
def vH:List Int->Bool
 | a::b::l=>decide (a<b)&&vH (b::l)
 | _=>true
def FZ(P:Program)(ops:Array Oper)(rows:List Row)(ey:List (Bool×Nat))(I:qy)(post:List (Bool×Nat)):Bool :=
 Hw (ops.toList.map (rowOf ops)) rows&&((match tJ ops rows ey 0 with
  | some dn=>Q1 (sS I.l) dn rows 0&&(UD ops rows I dn&&BU rows ops.size post (Nat.lor dn (sS I.l)))
  | none=>false)&&(increasing I.l&&(vH (I.l.map λi=>((pd ops I i).map (·.1)).getD 0)&&(Nat.beq (ey.length+(I.l.length+post.length)) ops.size&&(match uf P I.t with|some (.i,_)=>true|_=>false)))))
def Cw:∀l:List Nat,increasing l->l.Pairwise (·<·)
 | [],_=>List.Pairwise.nil
 | [a],_=>List.pairwise_singleton ..
 | a::b::l,h=>by
   simp only[increasing,cS]at h;have PC:a<b:=Nat.le_of_ble_eq_true h.1;have ih:=Cw (b::l) h.2;refine List.Pairwise.cons (λy hy=>?_) ih;rcases dy.1 hy with rfl|hy
   . exact PC
   . exact Nat.lt_trans PC ((List.pairwise_cons.1 ih).1 y hy)
def AF:∀l:List Int,vH l->l.Pairwise (·<·)
 | [],_=>List.Pairwise.nil
 | [a],_=>List.pairwise_singleton ..
 | a::b::l,h=>by
   simp only[vH,cS,dU]at h;have ih:=AF (b::l) h.2;refine List.Pairwise.cons (λy hy=>?_) ih;rcases dy.1 hy with rfl|hy
   . exact h.1
   . exact Int.lt_trans h.1 ((List.pairwise_cons.1 ih).1 y hy)
def I8{im done:Nat}:∀{l:List Row}{j:Nat},Q1 im done l j->∀k y,l[k]?=some y->(done.testBit (j+k)\/im.testBit (j+k)\/pS im y.a)
 | [],_,_,k,y,hy=>by simp at hy
 | z::r,j,h,k,y,hy=>by
   simp only[Q1,cS,ml,qp]at h;cases k with
   | zero=>simp at hy;subst hy;exact h.1
   | succ k =>
     have:=I8 h.2 k y (by simpa using hy);rw[show j+(k+1)=j+1+k by omega];exact this
def kB.jy{n:Nat}:∀(l:List Nat)(listed:Array Bool)(done:Nat),kB ops.size listed done->kB ops.size (Go.Rip.jy listed l) (Nat.lor done (sS l))
 | [],listed,done,h=>by
   show kB ops.size listed (done ||| 0);rw[Nat.or_zero];exact h
 | i::l,listed,done,h=>by
   have:=kB.jy (n:=n) l _ _ (h.set i);show kB ops.size (Go.Rip.jy (listed.setIfInBounds i true) l) (done ||| (2 ^ i ||| sS l));rw[<-Nat.or_assoc];exact this
def OP{P:Program}{rows:List Row}{ey:List (Bool×Nat)}{I:qy}{post:List (Bool×Nat)}(h:FZ P ops rows ey I post):zf P ops ey I post:=by
 simp only[FZ,cS]at h;obtain⟨h1,h2,h3,h4,h5,h6⟩:=h;rw[<-F6 h1]at h2;split at h2
 . rename_i dn hd;simp only[cS]at h2;obtain⟨b1,b2,b3⟩:=h2;obtain⟨l,k1,k2,k3⟩:=BW ey (Array.replicate ops.size false) 0 dn ⟨d8,λk hk=>by simp[hk]⟩ (Nat.two_pow_pos _) hd;have ajG:=Cw _ h3;have aii:=AF _ h4;simp only[UD,fQ,cS,Bool.not_eq_true',qp]at b2;have Bs:∀i∈I.l,∃o,ops[i]?=some o/\pS (rowOf ops o).a dn:=λi hi=>by
    have:=(b2 i hi).2.2;split at this
    . rename_i x hx;obtain⟨o,ho,rfl⟩:=B4 hx;exact⟨o,ho,this⟩
    . cases this
   have aA:∀i∈I.l,i<ops.size:=λi hi=>by
    obtain⟨o,ho,_⟩:=Bs i hi;exact (nN.1 ho).1
   have him:sS I.l<2 ^ ops.size:=by
    have:∀l:List Nat,(∀i∈l,i<ops.size)->sS l<2 ^ ops.size:=λl=>by
     induction l with
     | nil=>intro _;exact Nat.two_pow_pos _
     | cons i l ih=>intro hh;exact Nat.or_lt_two_pow (Nat.pow_lt_pow_right d6 (hh i d8)) (ih λj hj=>hh j (by simp[hj]))
    exact this _ aA
   have afV:∀{o:Oper}{m:Nat},m<2 ^ ops.size->pS (rowOf ops o).a m->∀e∈o.after,Region.binds .any e->m.testBit e.on:=λ{o m}Uc hs e he hb =>
    wz hs e.on ((fC _ _).2 (xy.2 ⟨e,he,hb,rfl⟩))
   simp only[zf,k1,cS];refine⟨⟨?_,BV post _ _ (kB.jy (n:=0) I.l l dn k2) (Nat.or_lt_two_pow k3 him) b3⟩,h5,h6⟩;simp only[tG,H4,cS,fQ,List.mem_range,ml,dU,Bool.not_eq_true'];refine⟨λj hj=>?_,λi hi=>?_,?_,λi hi=>⟨?_,(b2 i hi).2.1,?_⟩,ajG.imp (λh=>Nat.ne_of_lt h),aii.imp (λh=>Int.ne_of_lt h)⟩
   . obtain⟨o,ho⟩:∃o,ops[j]?=some o:=⟨ops[j],by simp[hj]⟩;have hy:(ops.toList.map (rowOf ops))[j]?=some (rowOf ops o):=by rw[po];simp[ho]
     rcases I8 b1 j _ hy with h|h|h
     . left;rw[k2.get hj];simpa using h
     . right;left;have:=(fC _ _).1 h;simpa using this
     . right;right;rw[ho];show (I.l.all λi=>o.after.toList.any λe=>Region.binds .any e&&Nat.beq e.on i)=true;rw[fQ];intro i hi;have:=wz h i ((fC _ _).2 hi);obtain⟨e,he,hb,G3⟩:=xy.1 ((fC _ _).1 this);rw[List.any_eq_true];exact⟨e,by simpa using he,by simp[hb,G3]⟩
   . rw[k2.get (aA i hi)];exact (b2 i hi).1
   . rw[k2.1];simp
   . show Nat.ble (i+1) ops.size=true;exact Nat.ble_eq_true_of_le (aA i hi)
   . obtain⟨o,ho,hs⟩:=Bs i hi;rw[ho];simp only[KP,fQ,ml,Bool.not_eq_true'];intro e he;cases hb:Region.binds .any e with
     | false=>exact .inl rfl
     | true =>
       right;have ht:=afV k3 hs e (by simpa using he) hb;have ng:e.on<ops.size:=by
        rcases ik e.on ops.size with h|h
        . exact h
        . rw[Nat.testBit_lt_two_pow (Nat.lt_of_lt_of_le k3 (Nat.pow_le_pow_right d6 h))]at ht;cases ht
       rw[k2.get ng];exact ht
 . cases h2
end
inductive T (α:Type) where
 | e
 | n (l:T α) (v:Option α) (r:T α)
def Dv{a:Nat}(h:a≠b):Nat.beq a b=false:=by
 cases hb:Nat.beq a b with
 | false=>rfl
 | true=>exact absurd (gN hb) h
def R5{a:Nat}(h:a=b):Nat.beq a b:=by subst h;exact Nat.beq_refl a
namespace T
variable {α:Type}
def get:T α->Nat->Option α
 | .e,_=>none
 | .n l v r,i=>cond (Nat.beq i 0) v (cond (Nat.beq (i%2) 1) (l.get (i / 2)) (r.get (i / 2-1)))
def B6:Nat->T α->Nat->Option α->T α
 | 0,t,_,_=>t
 | f+1,.e,i,v=>cond (Nat.beq i 0) (.n .e v .e) (cond (Nat.beq (i%2) 1) (.n (B6 f .e (i / 2) v) none .e) (.n .e none (B6 f .e (i / 2-1) v)))
 | f+1,.n l w r,i,v=>cond (Nat.beq i 0) (.n l v r) (cond (Nat.beq (i%2) 1) (.n (B6 f l (i / 2) v) w r) (.n l w (B6 f r (i / 2-1) v)))
def set(t:T α)(i:Nat)(v:Option α):T α:=B6 (i+1) t i v
def aaP:∀(f:Nat)(t:T α)(i j:Nat)(v:Option α),i<f->(B6 f t i v).get j=if j=i then v else t.get j:=by
 intro f
 induction f with
 | zero=>intro t i j v h;omega
 | succ f ih =>
   intro t i j v h;have key:∀(l r:T α)(w:Option α),(cond (Nat.beq i 0) (.n l v r) (cond (Nat.beq (i%2) 1) (.n (B6 f l (i / 2) v) w r) (.n l w (B6 f r (i / 2-1) v))):T α).get j=if j=i then v else (T.n l w r).get j:=λl r w=>by
    by_cases hi:i=0
    . subst hi;simp only[Nat.beq_refl,cond_true,get]
      by_cases hj:j=0
      . subst hj;simp
      . have:Nat.beq j 0=false:=Dv hj;simp[this,hj]
    . have sE:Nat.beq i 0=false:=Dv hi;rw[sE,cond_false]
      by_cases h1:i%2=1
      . have hb:Nat.beq (i%2) 1:=R5 h1;rw[hb,cond_true];simp only[get]
        by_cases hj:j=0
        . subst hj;have:(0:Nat)≠i:=λe=>hi e.symm;simp[this]
        . have Ju:Nat.beq j 0=false:=Dv hj;rw[Ju,cond_false,cond_false]
          by_cases yS:j%2=1
          . have Mf:Nat.beq (j%2) 1:=R5 yS;rw[Mf,cond_true,cond_true,ih _ _ _ _ d6]
            by_cases e:j=i
            . subst e;simp
            . rw[if_neg d6,if_neg e]
          . have Mf:Nat.beq (j%2) 1=false:=Dv yS;rw[Mf,cond_false,cond_false,if_neg d6]
      . have hb:Nat.beq (i%2) 1=false:=Dv h1;rw[hb,cond_false];simp only[get]
        by_cases hj:j=0
        . subst hj;have:(0:Nat)≠i:=λe=>hi e.symm;simp[this]
        . have Ju:Nat.beq j 0=false:=Dv hj;rw[Ju,cond_false,cond_false]
          by_cases yS:j%2=1
          . have Mf:Nat.beq (j%2) 1:=R5 yS;rw[Mf,cond_true,cond_true,if_neg d6]
          . have Mf:Nat.beq (j%2) 1=false:=Dv yS;rw[Mf,cond_false,cond_false,ih _ _ _ _ d6]
            by_cases e:j=i
            . subst e;simp
            . rw[if_neg d6,if_neg e]
   cases t with
   | n l w r=>exact key l r w
   | e =>
     have:=key .e .e none;simp only[B6];rw[this];congr 1;simp only[get];cases Nat.beq j 0<;>cases Nat.beq (j%2) 1<;>rfl
def xE(t:T α)(i j:Nat)(v:Option α):(t.set i v).get j=if j=i then v else t.get j:=aaP _ _ _ _ _ d6
def Qk:List α->Nat->T α->T α
 | [],_,t=>t
 | x::xs,i,t=>Qk xs (i+1) (t.set i (some x))
def Pz:∀(l:List α)(i:Nat)(t:T α)(j:Nat),(Qk l i t).get j=if i<=j/\j<i+l.length then l[j-i]? else t.get j
 | [],i,t,j=>by simp[Qk];omega
 | x::xs,i,t,j=>by
   simp only[Qk];rw[Pz xs (i+1) _ j,xE]
   by_cases h1:i+1<=j/\j<i+1+xs.length
   . rw[if_pos h1,if_pos (by simp;omega)];have:j-i=(j-(i+1))+1:=by omega
     rw[this];simp
   . rw[if_neg h1]
     by_cases h2:j=i
     . subst h2;simp
     . rw[if_neg h2,if_neg (by simp;omega)]
end T
def iv(t:T AV):Env:=⟨λi=>(t.get i).getD (.az [])⟩
def Ty(t:T AV)(d:Nat)(v:AV):iv (t.set d (some v))=(iv t).put d v:=by
 simp only[iv,Env.put,Env.mk.injEq];funext i;rw[T.xE];split<;>rfl
def DH(t:T AV):Option Nat->AV->T AV
 | some d,v=>t.set d (some v)
 | none,_=>t
def tw(t:T AV)(d:Option Nat)(v:AV):iv (DH t d v)=(iv t).ga d v:=by
 cases d with
 | none=>rfl
 | some d=>exact Ty t d v
def Rc(l:List AV):iv (T.Qk l 0 .e)=Env.mh l:=by
 simp only[iv,Env.mh,Env.mk.injEq];funext i;rw[T.Pz]
 by_cases h:i<l.length
 . rw[if_pos d6];simp[pq]
 . rw[if_neg d6];simp[T.get,pq,pn (Nat.le_of_not_lt h)]
structure ES where
 live:T Live
 n:Nat
def cj(e:ES):St:=⟨λb=>e.live.get b,some e.n⟩
def ES.set(e:ES)(b:Nat)(x:Live):ES:=⟨e.live.set b (some x),e.n⟩
def ES.del(e:ES)(b:Nat):ES:=⟨e.live.set b none,e.n⟩
def ES.wA(e:ES):Option Nat->ES
 | some b=>e.del b
 | none=>e
def ES.new(e:ES)(x:Live):ES:=⟨e.live.set e.n (some x),e.n+1⟩
def pR(e:ES)(b:Nat)(x:Live):cj (e.set b x)=(cj e).set b x:=by
 simp only[cj,ES.set,St.set,St.mk.injEq,and_true];funext y;rw[T.xE]
def Gb(e:ES)(b:Nat):cj (e.del b)=(cj e).del b:=by
 simp only[cj,ES.del,St.del,St.mk.injEq,and_true];funext y;rw[T.xE]
def ZP(e:ES)(b:Option Nat):cj (e.wA b)=(cj e).wA b:=by
 cases b with
 | none=>rfl
 | some b=>exact Gb e b
def vj(e:ES)(x:Live):cj (e.new x)=(cj e).new e.n x:=by
 simp only[cj,ES.new,St.new,St.mk.injEq,Option.map_some,and_true];funext y;rw[T.xE]
def aay:Fn->Fn->Bool
 | .func a,.func b=>Nat.beq a b
 | _,_=>false
def aex{a b:Fn}(h:aay a b):a=b:=by
 cases a<;>cases b<;>simp only[aay,bW]at h
 rw[gN h]
def Re:nj->nj->Bool
 | .full,.full=>true
 | .own a,.own b=>Nat.beq a b
 | .lC,.lC=>true
 | _,_=>false
def aax{a b:nj}(h:Re a b):a=b:=by
 cases a<;>cases b<;>simp only[Re,bW]at h<;>first
  | rfl
  | rw[gN h]
mutual
def lP:AV->AV->Bool
 | .bool a,.bool b=>a==b
 | .int k a,.int k' b=>decide (k=k')&&decide (a=b)
 | .str a,.str b=>decide (a=b)
 | .bE,.bE|.af,.af|.lK,.lK|.eY,.eY|.eu,.eu=>true
 | .box a i,.box b j=>Nat.beq a b&&Nat.beq i j
 | .dJ l,.dJ l'=>sg l l'
 | .vec n c l,.vec n' c' l'=>Nat.beq n n'&&Re c c'&&sg l l'
 | .ms b o n z e,.ms b' o' n' z' e'=>Nat.beq b b'&&Nat.beq o o'&&Nat.beq n n'&&Nat.beq z z'&&Nat.beq e e'
 | .mp a,.mp b=>Nat.beq a b
 | .iK ks vs,.iK ks' vs'=>sg ks ks'&&sg vs vs'
 | .func f a b,.func f' a' b'=>aay f f'&&sg a a'&&sg b b'
 | .iface t v,.iface t' v'=>Nat.beq t t'&&lP v v'
 | .agg l,.agg l'=>sg l l'
 | .az l,.az l'=>sg l l'
 | .uK a,.uK b=>Nat.beq a b
 | .it a,.it b=>Nat.beq a b
 | .any,.any=>true
 | _,_=>false
def sg:List AV->List AV->Bool
 | [],[]=>true
 | x::xs,y::ys=>lP x y&&sg xs ys
 | _,_=>false
end
mutual
def Ag:∀{a b:AV},lP a b=true->a=b
 | .bool a,b,h=>by cases b<;>simp only[lP,bW]at h;simpa using h
 | .int k a,b,h=>by cases b<;>simp only[lP,bW]at h;simpa using h
 | .str a,b,h=>by cases b<;>simp only[lP,bW]at h;simpa using h
 | .bE,b,h=>by cases b<;>simp only[lP,bW]at h;rfl
 | .af,b,h=>by cases b<;>simp only[lP,bW]at h;rfl
 | .lK,b,h=>by cases b<;>simp only[lP,bW]at h;rfl
 | .eY,b,h=>by cases b<;>simp only[lP,bW]at h;rfl
 | .eu,b,h=>by cases b<;>simp only[lP,bW]at h;rfl
 | .box a i,b,h=>by cases b<;>simp only[lP,bW,cS]at h;rw[gN h.1,gN h.2]
 | .dJ l,b,h=>by cases b<;>simp only[lP,bW]at h;rw[nB h]
 | .vec n c l,b,h=>by cases b<;>simp only[lP,bW,cS]at h;rw[gN h.1.1,aax h.1.2,nB h.2]
 | .ms b o n z e,b',h=>by
   cases b'<;>simp only[lP,bW,cS]at h
   rw[gN h.1.1.1.1,gN h.1.1.1.2,gN h.1.1.2,gN h.1.2,gN h.2]
 | .mp a,b,h=>by cases b<;>simp only[lP,bW]at h;rw[gN h]
 | .iK ks vs,b,h=>by cases b<;>simp only[lP,bW,cS]at h;rw[nB h.1,nB h.2]
 | .func f a b,b',h=>by cases b'<;>simp only[lP,bW,cS]at h;rw[aex h.1.1,nB h.1.2,nB h.2]
 | .iface t v,b,h=>by cases b<;>simp only[lP,bW,cS]at h;rw[gN h.1,Ag h.2]
 | .agg l,b,h=>by cases b<;>simp only[lP,bW]at h;rw[nB h]
 | .az l,b,h=>by cases b<;>simp only[lP,bW]at h;rw[nB h]
 | .uK a,b,h=>by cases b<;>simp only[lP,bW]at h;rw[gN h]
 | .it a,b,h=>by cases b<;>simp only[lP,bW]at h;rw[gN h]
 | .any,b,h=>by cases b<;>simp only[lP,bW]at h;rfl
def nB:∀{a b:List AV},sg a b=true->a=b
 | [],b,h=>by cases b<;>simp only[sg,bW]at h;rfl
 | x::xs,b,h=>by cases b<;>simp only[sg,bW,cS]at h;rw[Ag h.1,nB h.2]
end
def LJ:Option Live->Option Live->Bool
 | some (.box l),some (.box l')=>sg l l'
 | some (.mp a b),some (.mp a' b')=>sg a a'&&sg b b'
 | _,_=>false
def Tz{a b:Option Live}(h:LJ a b):a=b:=by
 unfold LJ at h;split at h
 . rw[nB h]
 . simp only[cS]at h;rw[nB h.1,nB h.2]
 . cases h
end Go.Rip
namespace Go.Rip
open Go.RowKit
structure kV where
 C:dQ
 mu:Nat->List Nat
 pf:Nat->Bool
 sm:Nat->List AV->Option AV
 sm2:Nat->List AV->ES->Option (AV×ES)
 tr:Nat->Bool
 ft:TypeId
 ins:Nat->Nat->Option (List Row×List (Bool×Nat)×qy×List (Bool×Nat)):=λ_ _=>none
abbrev KR:=bA->ES->Bool
abbrev KC:=Ex->T AV->ES->Bool
abbrev xd:=Nat->List AV->ES->KR->Bool
def rK(k kp:AV->ES->Bool):KR
 | .ret v,e=>k v e
 | .panic v,e=>kp v e
def EB(cf cy:xd)(e:ES):aW->(AV->ES->Bool)->(AV->ES->Bool)->Bool
 | .val v,k,_=>k v e
 | .kg v b x,k,_=>k v (e.set b x)
 | .new kd del x,k,_=>k (kd.at e.n) ((e.wA del).new x)
 | .ov b l,k,_=>l.all λp=>k p.1 (e.set b p.2)
 | .enter f args,k,kp=>cf f args e (rK k kp)
 | .yield o args,k,kp=>cy o args e (rK k kp)
 | .panic v,_,kp=>kp v e
 | @aW.cond p d r,k,kp=>(@decide p d)&&EB cf cy e r k kp
 | .bad,_,_=>false
def GC(V:kV)(cf cy:xd)(mu:List Nat)(ops:Array Oper):List Oper->T AV->ES->(T AV->ES->Bool)->(AV->ES->Bool)->Bool
 | [],ρ,e,k,_=>k ρ e
 | o::rest,ρ,e,k,kp=>match km ops (iv ρ) o.guard with
   | .bool true=>EB cf cy e (mj V.C (qC mu o) o.op (iv ρ) (cj e)) (λv e'=>GC V cf cy mu ops rest (DH ρ o.dst v) e' k kp) kp
   | .bool false=>GC V cf cy mu ops rest (DH ρ o.dst (.az [])) e k kp
   | _=>false
def QO(V:kV):aW->Option AV
 | .val v=>some v
 | @aW.cond p d r=>cond (@decide p d) (QO V r) none
 | .enter f args=>V.sm f args
 | _=>none
def SD(B:List Nat)(e0 e:ES):Bool:=B.all λb=>LJ (e.live.get b) (e0.live.get b)
def Ii(C:dQ)(B:List Nat)(ρ:Env)(op:Op):Bool:=op.operands.toList.all λx=>(cB (ρ.ev C x)).all λb=>B.any λc=>Nat.beq c b
def sA(V:kV)(cf cy:xd)(mu:List Nat)(ops:Array Oper)(B:List Nat)(e0:ES):List (Bool×Nat)->T AV->ES->(T AV->ES->Bool)->(AV->ES->Bool)->Bool
 | [],ρ,e,k,_=>k ρ e
 | (true,i)::r,ρ,e,k,kp=>match ops[i]? with
   | none=>false
   | some o=>match km ops (iv ρ) o.guard with
     | .bool true=>quiet o.op&&(!rQ o.op||Ii V.C B (iv ρ) o.op)&&(match QO V (mj V.C (qC mu o) o.op (iv ρ) (cj e0)) with
       | some v=>sA V cf cy mu ops B e0 r (DH ρ o.dst v) e k kp
       | none=>false)
     | .bool false=>sA V cf cy mu ops B e0 r (DH ρ o.dst (.az [])) e k kp
     | _=>false
 | (false,i)::r,ρ,e,k,kp=>match ops[i]? with
   | none=>false
   | some o=>match km ops (iv ρ) o.guard with
     | .bool true=>EB cf cy e (mj V.C (qC mu o) o.op (iv ρ) (cj e)) (λv e'=>(SD B e0 e'||vU ops i)&&sA V cf cy mu ops B e0 r (DH ρ o.dst v) e' k kp) kp
     | .bool false=>sA V cf cy mu ops B e0 r (DH ρ o.dst (.az [])) e k kp
     | _=>false
def Vm(V:kV)(o:Oper):Bool:=match o.op with
 | .call c=>match c.callee with
   | .value (.func f)=>V.pf f
   | .value _=>false
   | _=>quiet o.op
 | op=>quiet op
def Dt(V:kV)(ops:Array Oper):Nat->Array Bool->List (Bool×Nat)
 | 0,_=>[]
 | n+1,listed=>match (Region.ready .any ops listed).find? λi=>match ops[i]? with|some o=>Vm V o|none=>false with
   | some i=>(true,i)::Dt V ops n (listed.setIfInBounds i true)
   | none=>match Region.ready .any ops listed with
     | i::_=>(false,i)::Dt V ops n (listed.setIfInBounds i true)
     | []=>[]
def preB(V:kV)(mu:List Nat)(e0:ES):List Oper->T AV->List Nat->List Nat
 | [],_,B=>B
 | o::r,ρ,B=>preB V mu e0 r (DH ρ o.dst (cond (Vm V o) ((QO V (mj V.C (qC mu o) o.op (iv ρ) (cj e0))).getD .any) .any)) (cond (rQ o.op) (o.op.operands.toList.flatMap (λx=>cB ((iv ρ).ev V.C x))++B) B)
def R0(P:Program)(ty:TypeId)(p:AV)(U:St):Option AV:=match y6 P ty p U with
 | .val v=>some v
 | @aW.cond q d (.val v)=>cond (@decide q d) (some v) none
 | _=>none
def F4(P:Program)(ρ:Env)(U:St):List ResultVar->Option (List AV)
 | []=>some []
 | .tmp t::rs=>(F4 P ρ U rs).map λvs=>ρ.get t::vs
 | .cell t ty::rs=>match R0 P ty (ρ.get t) U with
   | some v=>(F4 P ρ U rs).map λvs=>v::vs
   | none=>none
abbrev yJ:=Nat->List Nat->Nat->Ro->Code->T AV->ES->KC->Bool
def aau(P:Program)(fn:Func)(k:KR):KC:=λex ρ e=>match ex with
 | .normal|.ret=>match F4 P (iv ρ) (cj e) fn.results.toList with
   | some vs=>k (.ret (zU vs)) e
   | none=>false
 | .panic x=>k (.panic x) e
 | .exit _=>false
def NY(ft:TypeId)(a:Nat)(k:KR):KR
 | .ret v,e=>match (cj e).box a,(cj e).box (a+1),(cj e).box (a+2) with
   | some [_],some [_],some [_]=>v.scalar&&k (.ret (.az [v,.int .i64 0,.bool true])) (((e.set a (.box [v])).set (a+1) (.box [.int .i64 0])).set (a+2) (.box [.bool true]))
   | _,_,_=>false
 | .panic x,e=>match x,(cj e).box a,(cj e).box (a+1),(cj e).box (a+2) with
   | .iface t (.agg [.int .i64 at_]),some [_],some [_],some [_]=>Nat.beq t ft&&k (.ret (.az [.bE,.int .i64 at_,.bool false])) ((((e.new (.box [.int .i64 at_])).set a (.box [.bE])).set (a+1) (.box [.int .i64 at_])).set (a+2) (.box [.bool false]))
   | _,_,_,_=>false
def KT(V:kV)(ev:yJ):xd:=λf args e k =>
 match V.sm f args with
 | some x=>k (.ret x) e
 | none=>match V.sm2 f args e with
   | some (x,e')=>k (.ret x) e'
   | none=>match V.C.P.funcs[f]? with
     | some fn=>match fn.body with
       | some c=>Nat.ble args.length fn.ntmps&&ev fn.ntmps (V.mu f) f .fn c (T.Qk args 0 .e) e (aau V.C.P fn k)
       | none=>false
     | none=>false
def ahr(e:ES):ES:=((e.new (.box [.bE])).new (.box [.int .i64 0])).new (.box [.bool false])
def xf(V:kV)(ev:yJ):xd:=λf args e k =>
 cond (V.tr f) (match args with
  | [_,.func (.func g) first cap]=>gP V.C.P g&&KT V ev g (first++cap) (ahr e) (NY V.ft e.n k)
  | _=>false) (KT V ev f args e k)
def endRound(o:Nat)(k:KR):KC:=λex _ e=>match (cj e).loop o with
 | some L=>match ex with
   | .normal=>k (.ret (.bool true)) (e.set o (.loop { L with state:=.ready,iL:=none }))
   | .ret=>k (.ret (.bool false)) (e.set o (.loop { L with state:=.done,iL:=some .ret }))
   | .exit id=>k (.ret (.bool false)) (e.set o (.loop { L with state:=.done,iL:=some (.exit id) }))
   | .panic _=>false
 | none=>false
def isReady:LoopState->Bool
 | .ready=>true
 | _=>false
def Uz:LoopState->Bool
 | .busy=>true
 | _=>false
def vn(f:Nat->AV):Nat->T AV->T AV
 | 0,t=>t
 | n+1,t=>vn f n (t.set n (some (f n)))
def Bc(V:kV)(ev:yJ):xd:=λo args e k =>
 match (cj e).loop o with
 | some L=>Nat.beq args.length L.params.size&&L.params.toList.all (λt=>Nat.blt t L.nt) &&
   ev L.nt (V.mu L.tag) L.tag (.round o) L.assign (vn (BY L.ρ L.params.toList args) L.nt .e) e (λex ρ e=>match ex with
    | .normal=>match (cj e).loop o with
      | some L'=>isReady L'.state&&ev L.nt (V.mu L.tag) L.tag (.round o) L.body ρ (e.set o (.loop { L' with state:=.busy })) (endRound o k)
      | none=>false
    | _=>false)
 | none=>false
def LI(o:Nat)(ρ:T AV)(k:KC):KR
 | .ret _,e=>match (cj e).loop o with
   | some L=>!Uz L.state&&(match L.iL with
     | none=>k .normal ρ (e.del o)
     | some .ret=>k .ret ρ (e.del o)
     | some (.exit id)=>k (.exit id) ρ (e.del o)
     | _=>false)
   | none=>false
 | .panic x,e=>k (.panic x) .e e
def aba(V:kV)(ops:Array Oper)(B:List Nat)(I:qy)(ρ:T AV)(e:ES)(k:T AV->ES->Bool):Bool:=match (iv ρ).get I.m with
 | .mp id=>(match (cj e).mp id with|some ([],[])=>true|_=>false)&&(B.all (λb=>!Nat.beq b id)&&k ρ (e.set id (.mp (sH I.kk (qq V.C ops (iv ρ) I) ([],[])).1 (sH I.kk (qq V.C ops (iv ρ) I) ([],[])).2)))
 | _=>false
def qF(V:kV):Nat->yJ
 | 0=>λ_ _ _ _ _ _ _ _=>false
 | n+1=>λnt mu tag ro c ρ e k =>
   match c with
   | .skip=>k .normal ρ e
   | .exit id=>k (.exit id) ρ e
   | .ret=>k .ret ρ e
   | .seq a b=>qF V n nt mu tag ro a ρ e λex ρ e=>match ex with
     | .normal=>qF V n nt mu tag ro b ρ e k
     | ex=>k ex ρ e
   | .cond x a b=>match (iv ρ).ev V.C x with
     | .bool true=>qF V n nt mu tag ro a ρ e k
     | .bool false=>qF V n nt mu tag ro b ρ e k
     | _=>false
   | .block id a=>qF V n nt mu tag ro a ρ e λex ρ e=>match ex with
     | .exit Fg=>cond (Nat.beq Fg id) (k .normal ρ e) (k (.exit Fg) ρ e)
     | ex=>k ex ρ e
   | .loop a=>qF V n nt mu tag ro a ρ e λex ρ e=>match ex with
     | .normal=>qF V n nt mu tag ro (.loop a) ρ e k
     | ex=>k ex ρ e
   | .region _ ops false=>nW nt ops&&GC V (xf V (qF V n)) (Bc V (qF V n)) mu ops ops.toList ρ e (λρ e=>k .normal ρ e) (λx e=>k (.panic x) .e e)
   | .region id ops true=>match V.ins tag id with
     | none=>nW nt ops&&(kM ops (Dt V ops ops.size (Array.replicate ops.size false)) (Array.replicate ops.size false)&&((Dt V ops ops.size (Array.replicate ops.size false)).length==ops.size)) &&
     sA V (xf V (qF V n)) (Bc V (qF V n)) mu ops (preB V mu e ops.toList ρ []) e (Dt V ops ops.size (Array.replicate ops.size false)) ρ e (λρ e=>k .normal ρ e) (λx e=>k (.panic x) .e e)
     | some (rows,ey,I,post)=>nW nt ops&&(FZ V.C.P ops rows ey I post&&sA V (xf V (qF V n)) (Bc V (qF V n)) mu ops (preB V mu e ops.toList ρ []) e ey ρ e (λfI e'=>aba V ops (preB V mu e ops.toList ρ []) I fI e' (λfI e'=>sA V (xf V (qF V n)) (Bc V (qF V n)) mu ops (preB V mu e ops.toList ρ []) e post fI e' (λρ e=>k .normal ρ e) (λx e=>k (.panic x) .e e))) (λx e=>k (.panic x) .e e))
   | .rangeFunc f ps assign body=>match ro,(iv ρ).ev V.C f with
     | .fn,.func (.func lV) first cap=>gP V.C.P lV&&xf V (qF V n) lV (first++[.uK e.n]++cap) (e.new (.loop ⟨(iv ρ).get,nt,ps,assign,body,.ready,none,tag⟩)) (LI e.n ρ k)
     | _,_=>false
   | _=>false
def kR(k:KR):bA->St->Prop:=λr U=>∃e,U=cj e/\k r e
def kA(k:AV->ES->Bool):am:=λv U=>∃e,U=cj e/\k v e
def kE(k:T AV->ES->Bool):Env->St->Prop:=λρ U=>∃t e,ρ=iv t/\U=cj e/\k t e
def kC(k:KC):Ex->Env->St->Prop
 | .panic x,_,U=>∃e,U=cj e/\k (.panic x) .e e
 | ex,ρ,U=>∃t e,ρ=iv t/\U=cj e/\k ex t e
def NZ(ft:TypeId)(a b c:Nat)(R:bA->St->Prop):bA->St->Prop
 | .ret v,U=>v.scalar/\(∃x,U.box a=some [x])/\(∃x,U.box b=some [x])/\(∃x,U.box c=some [x])/\R (.ret (.az [v,.int .i64 0,.bool true])) (((U.c7 a [v]).c7 b [.int .i64 0]).c7 c [.bool true])
 | .panic x,U=>∃at_,x=.iface ft (.agg [.int .i64 at_])/\(∃x,U.box a=some [x])/\(∃x,U.box b=some [x])/\(∃x,U.box c=some [x]) /\
    ∀q,U.eO q->R (.ret (.az [.bE,.int .i64 at_,.bool false])) ((((U.new q (.box [.int .i64 at_])).c7 a [.bE]).c7 b [.int .i64 at_]).c7 c [.bool false])
def Pd(C:dQ)(ft:TypeId)(f:Nat):Prop:=∀r g first cap U R,gP C.P g ->
 (∀a b c,U.eO a->(U.new a (.box [.bE])).eO b->((U.new a (.box [.bE])).new b (.box [.int .i64 0])).eO c ->
   ag C g (first++cap) (((U.new a (.box [.bE])).new b (.box [.int .i64 0])).new c (.box [.bool false])) (NZ ft a b c R))->ag C f [r,.func (.func g) first cap] U R
structure uL (V:kV):Prop where
 sm:∀f args x,V.sm f args=some x->Pure V.C f args x
 sm2:∀f args e x e',V.sm2 f args e=some (x,e')->∀R,R (.ret x) (cj e')->ag V.C f args (cj e) R
 tr:∀f,V.tr f->Pd V.C V.ft f
 mixed:V.C.P.follows .mixedOrders
def CF(V:kV)(cf:xd):Prop:=∀f args e k,cf f args e k->ag V.C f args (cj e) (kR k)
def Ef(V:kV)(cy:xd):Prop:=∀o args e k,cy o args e k->o6 V.C o args (cj e) (kR k)
def z8(V:kV)(ev:yJ):Prop:=∀nt mu tag ro c ρ e k,ev nt mu tag ro c ρ e k->cu V.C nt ro c (kC k) (iv ρ) (cj e)
def xz{e:ES}{b:Nat}(h:(cj e).eO b):b=e.n:=h.2 _ rfl
def Tt(e:ES)(d:Option Nat):(e.wA d).n=e.n:=by cases d<;>rfl
variable {ops:Array Oper}{B:List Nat}{U:St}{C:dQ}
section
variable {V:kV}{cf cy:xd}
def F7(hf:CF V cf)(hy:Ef V cy){e:ES}{k kp:AV->ES->Bool}:∀(r:aW),EB cf cy e r k kp->r.wp V.C (cj e) (kA k) (kA kp)
 | .val v,h=>⟨e,rfl,h⟩
 | .kg v b x,h=>⟨e.set b x,(pR e b x).symm,h⟩
 | .new kd del x,h=>λb hb=>by
   rw[<-ZP]at hb ⊢;have:=xz hb;rw[Tt]at this;subst this;exact⟨(e.wA del).new x,by rw[vj,Tt],h⟩
 | .ov b l,h=>λp hp=>by
   simp only[EB,fQ]at h;exact⟨e.set b p.2,(pR e b p.2).symm,h p hp⟩
 | .enter f args,h=>(hf f args e _ h).mono λr U hr=>by cases r<;>exact hr
 | .yield o args,h=>(hy o args e _ h).mono λr U hr=>by cases r<;>exact hr
 | .panic v,h=>⟨e,rfl,h⟩
 | @aW.cond p d r,h=>by
   simp only[EB,cS]at h;exact⟨@of_decide_eq_true p d h.1,F7 hf hy r h.2⟩
 | .bad,h=>by cases h
def aeE{I:qy}{k:T AV->ES->Bool}(ρ:T AV)(e:ES)(h:aba V ops B I ρ e k):RG V.C ops B I (kE k) (iv ρ) (cj e):=by
 unfold aba at h;split at h
 . rename_i id hid;simp only[cS,fQ,Bool.not_eq_true']at h;obtain⟨h1,h2,h3⟩:=h;split at h1
   . rename_i Mm;refine⟨id,hid,Mm,λhm=>?_,ρ,_,rfl,(pR e id _).symm,h3⟩;have:=h2 id hm;simp at this
   . cases h1
 . cases h
def FH(hf:CF V cf)(hy:Ef V cy){mu:List Nat}{k:T AV->ES->Bool}{kp:AV->ES->Bool}:∀(l:List Oper)(ρ:T AV)(e:ES),GC V cf cy mu ops l ρ e k kp ->
 sk V.C mu ops l (iv ρ) (cj e) (kE k) (kA kp)
 | [],ρ,e,h=>⟨ρ,e,rfl,rfl,h⟩
 | o::rest,ρ,e,h=>by
   simp only[GC]at h;simp only[sk];split at h
   . rename_i hg;rw[hg];refine⟨λ_=>?_,λh=>(by cases h)⟩;refine aW.wp_mono ?_ _ (F7 hf hy _ h);rintro v U ⟨e',rfl,hk⟩;have:=FH hf hy rest _ e' hk;rw[tw]at this;exact this
   . rename_i hg;rw[hg];refine⟨λh=>(by cases h),λ_=>?_⟩;have:=FH hf hy rest _ e h;rw[tw]at this;exact this
   . cases h
def aad(hV:uL V):∀(r:aW)(v:AV),QO V r=some v->r.yv V.C v
 | .val u,v,h=>by simp only[QO,kP]at h;exact h
 | @aW.cond p d r,v,h=>by
   simp only[QO]at h;cases hd:@decide p d with
   | false=>rw[hd]at h;cases h
   | true=>rw[hd]at h;exact⟨@of_decide_eq_true p d hd,aad hV r v h⟩
 | .enter f args,v,h=>hV.sm f args v h
 | .kg _ _ _,v,h=>by cases h
 | .new _ _ _,v,h=>by cases h
 | .ov _ _,v,h=>by cases h
 | .yield _ _,v,h=>by cases h
 | .panic _,v,h=>by cases h
 | .bad,v,h=>by cases h
def abT{e0 e:ES}(h:SD B e0 e):dR B (cj e0) (cj e):=λb hb=>by
 unfold SD at h;rw[fQ]at h;exact Tz (h b hb)
def Rw{C:dQ}{ρ:Env}{op:Op}(h:Ii C B ρ op):∀x∈op.operands.toList,∀b∈cB (ρ.ev C x),b∈B:=λx hx b hb=>by
 unfold Ii at h;rw[fQ]at h;have:=h x hx;rw[fQ]at this;have:=this b hb;rw[List.any_eq_true]at this;obtain⟨c,hc,he⟩:=this;rw[<-gN he];exact hc
def qV(hV:uL V)(hf:CF V cf)(hy:Ef V cy){mu:List Nat}{e0:ES}{k:T AV->ES->Bool}{kp:AV->ES->Bool}:∀(l:List (Bool×Nat))(ρ:T AV)(e:ES),sA V cf cy mu ops B e0 l ρ e k kp ->
 oz V.C mu ops B (cj e0) (kE k) (kA kp) l (iv ρ) (cj e)
 | [],ρ,e,h=>⟨ρ,e,rfl,rfl,h⟩
 | (true,i)::r,ρ,e,h=>by
   simp only[sA]at h;split at h
   . cases h
   . rename_i o ho;split at h
     . rename_i hg;simp only[cS,ml,Bool.not_eq_true']at h;obtain⟨⟨h1,h2⟩,h3⟩:=h;split at h3
       . rename_i v hv;refine⟨o,v,ho,.inl ⟨hg,h1,λuI=>?_,aad hV _ _ hv⟩,?_⟩
         . rcases h2 with h2|h2
           . rw[uI]at h2;cases h2
           . exact Rw h2
         . have:=qV hV hf hy r _ e h3;rw[tw]at this;exact this
       . cases h3
     . rename_i hg;refine⟨o,.az [],ho,.inr ⟨hg,rfl⟩,?_⟩;have:=qV hV hf hy r _ e h;rw[tw]at this;exact this
     . cases h
 | (false,i)::r,ρ,e,h=>by
   simp only[sA]at h;simp only[oz,nX];split at h
   . cases h
   . rename_i o ho
     try rw[ho]
     try dsimp only
     split at h
     . rename_i hg;rw[hg];refine⟨λ_=>?_,λh=>(by cases h)⟩;refine aW.wp_mono ?_ _ (F7 hf hy _ h);rintro v U ⟨e',rfl,hk⟩;simp only[cS]at hk;refine⟨?_,?_⟩
       . rw[ml]at hk;rcases hk.1 with h|h
         . exact .inr (abT h)
         . exact .inl (aeP h)
       have:=qV hV hf hy r _ e' hk.2;rw[tw]at this;exact this
     . rename_i hg;rw[hg];refine⟨λh=>(by cases h),λ_=>?_⟩;have:=qV hV hf hy r _ e h;rw[tw]at this;exact this
     . cases h
def ze{mu:List Nat}{K K':Env->St->Prop}{Kp Ci:am}(hk:∀ρ U,K ρ U->K' ρ U)(hp:∀v U,Kp v U->Ci v U):∀(l:List Oper){ρ:Env}{U:St},sk C mu ops l ρ U K Kp->sk C mu ops l ρ U K' Ci
 | [],_,_,h=>hk _ _ h
 | o::rest,ρ,U,h=>by
   simp only[sk]at h ⊢;have wpp:∀(r:aW){U:St}{X:am},r.wp C U X Kp->r.wp C U X Ci:=λr=>by
    induction r with
    | val _=>exact λh=>h
    | kg _ _ _=>exact λh=>h
    | new _ _ _=>exact λh=>h
    | ov _ _=>exact λh=>h
    | enter f args=>exact λh=>h.mono λr U hr=>by cases r<;>first|exact hr|exact hp _ _ hr
    | yield o args=>exact λh=>h.mono λr U hr=>by cases r<;>first|exact hr|exact hp _ _ hr
    | panic v=>exact λh=>hp _ _ h
    | cond p r ih=>exact λh=>⟨h.1,ih h.2⟩
    | bad=>exact λh=>h
   cases hg:km ops ρ o.guard<;>rw[hg]at h<;>simp only[cX]at h ⊢
   exact⟨λe=>aW.wp_mono (λv U hv=>ze hk hp rest hv) _ (wpp _ (h.1 e)),λe=>ze hk hp rest (h.2 e)⟩
def abn{P:Program}{ty:TypeId}{p v:AV}(h:R0 P ty p U=some v){k:AV->Prop}(hk:k v):Et P ty p U k:=by
 unfold R0 at h;unfold Et;split at h
 . rename_i u hu;cases h
   first|exact hk|(rw[hu];exact hk)
 . rename_i q d u hu;cases hd:@decide q d with
   | false=>rw[hd]at h;cases h
   | true =>
     rw[hd]at h;cases h
     first|exact⟨@of_decide_eq_true q d hd,hk⟩|(rw[hu];exact⟨@of_decide_eq_true q d hd,hk⟩)
 . cases h
def Ez{P:Program}{ρ:Env}:∀(rs:List ResultVar)(vs:List AV)(k:List AV->Prop),F4 P ρ U rs=some vs->k vs->zQ P ρ U rs k
 | [],vs,k,h,hk=>by simp only[F4,kP]at h;subst h;exact hk
 | .tmp t::rs,vs,k,h,hk=>by
   simp only[F4,so]at h;obtain⟨us,hu,rfl⟩:=h;exact Ez rs us _ hu hk
 | .cell t ty::rs,vs,k,h,hk=>by
   simp only[F4]at h;split at h
   . rename_i v hv;simp only[so]at h;obtain⟨us,hu,rfl⟩:=h;exact abn hv (Ez rs us _ hu hk)
   . cases h
def Lx(hV:uL V){ev:yJ}(he:z8 V ev):CF V (KT V ev):=λf args e k h=>by
 simp only[KT]at h;split at h
 . rename_i x hx;exact hV.sm f args x hx _ _ ⟨e,rfl,h⟩
 . split at h
   . rename_i x e' hx;exact hV.sm2 f args e x e' hx _ ⟨e',rfl,h⟩
   . split at h
     . rename_i fn hfn;split at h
       . rename_i c hc;simp only[cS]at h;refine ag.Ql hfn hc (Nat.le_of_ble_eq_true h.1) ?_;have:=he _ _ _ _ _ _ _ _ h.2;rw[Rc]at this;refine this.mono ?_;intro ex ρ U hc;cases ex with
         | normal =>
           obtain⟨t,e',rfl,rfl,hk⟩:=hc;simp only[aau]at hk;split at hk
           . rename_i vs De;exact Ez _ vs _ De ⟨_,_,qz.refl _ _,e',rfl,hk⟩
           . cases hk
         | ret =>
           obtain⟨t,e',rfl,rfl,hk⟩:=hc;simp only[aau]at hk;split at hk
           . rename_i vs De;exact Ez _ vs _ De ⟨_,_,qz.refl _ _,e',rfl,hk⟩
           . cases hk
         | panic x =>
           obtain⟨e',rfl,hk⟩:=hc;exact⟨e',rfl,hk⟩
         | exit id =>
           obtain⟨t,e',rfl,rfl,hk⟩:=hc;cases hk
       . cases h
     . cases h
def qw(e:ES)(b:Nat)(l:List AV):(cj e).c7 b l=cj (e.set b (.box l)):=(pR e b _).symm
def Ly(hV:uL V){ev:yJ}(he:z8 V ev):CF V (xf V ev):=λf args e k h=>by
 simp only[xf]at h;cases Ui:V.tr f with
 | false=>rw[Ui]at h;exact Lx hV he f args e k h
 | true =>
   rw[Ui]at h;simp only[cond_true]at h;split at h
   . rename_i r g first cap
     rw[cS]at h;obtain⟨xU,h⟩:=h;refine hV.tr f Ui r g first cap _ _ xU λa b c ha hb hc=>?_
     have ea:=xz ha;subst ea;rw[<-vj]at hb hc ⊢;have eb:=xz hb;subst eb;rw[<-vj]at hc ⊢;have ec:=xz hc;subst ec;rw[<-vj];refine (Lx hV he g _ _ _ h).mono ?_;rintro r U ⟨e',rfl,hk⟩;cases r with
     | ret v =>
       simp only[NY]at hk;split at hk
       . rename_i x y z h1 h2 h3;rw[cS]at hk;refine⟨hk.1,⟨x,h1⟩,⟨y,h2⟩,⟨z,h3⟩,?_⟩;rw[qw,qw,qw];exact⟨_,rfl,hk.2⟩
       . cases hk
     | panic x =>
       simp only[NY]at hk;split at hk
       . rename_i t at_ x y z h1 h2 h3;simp only[cS]at hk;have ht:=gN hk.1;subst ht;refine⟨at_,rfl,⟨x,h1⟩,⟨y,h2⟩,⟨z,h3⟩,λq hq=>?_⟩;have eq:=xz hq;subst eq;rw[<-vj,qw,qw,qw];exact⟨_,rfl,hk.2⟩
       . cases hk
   . cases h
def yw(f:Nat->AV):∀(n:Nat)(t:T AV)(i:Nat),(vn f n t).get i=if i<n then some (f i) else t.get i
 | 0,t,i=>by simp[vn]
 | n+1,t,i=>by
   simp only[vn];rw[yw f n,T.xE]
   by_cases h:i<n
   . rw[if_pos h,if_pos d6]
   . rw[if_neg h]
     by_cases e:i=n
     . subst e;simp
     . rw[if_neg e,if_neg d6]
end
def cu.env{nt:Nat}{ro:Ro}{c:Code}{Q:Ex->Env->St->Prop}{ρ fI:Env}(h1:∀t,t<nt->fI.get t=ρ.get t)(h2:∀t,nt<=t->fI.get t=.az [])(h:cu C nt ro c Q fI U):cu C nt ro c Q ρ U:=by
 intro g w a fr k1 k2 k3 k4 k5;refine h g w a fr k1 k2 (λt=>?_) k4 k5
 by_cases ht:t<nt
 . rw[h1 t ht];exact k3 t
 . rw[h2 t d6];have:a.tmps.getD t undef=undef:=by
    rw[Array.getD_eq_getD_getElem?,B1 d6];rfl
   rw[this];exact zi
section
variable {V:kV}
def aac(hV:uL V){ev:yJ}(he:z8 V ev):Ef V (Bc V ev):=λo args e k h=>by
 simp only[Bc]at h;split at h
 . rename_i L hL;simp only[cS]at h;obtain⟨⟨h1,h2⟩,h3⟩:=h;refine o6.Na hL (gN h1) (λt ht=>?_) ?_
   . rw[fQ]at h2;have:=h2 t ht;simpa [Nat.blt_eq] using this
   . have h4:=he _ _ _ _ _ _ _ _ h3;refine cu.env (fI:=iv (vn (BY L.ρ L.params.toList args) L.nt .e)) (λt ht=>?_) (λt ht=>?_) ?_
     . simp only[iv];rw[yw,if_pos ht];rfl
     . simp only[iv];rw[yw,if_neg d6];rfl
     . refine h4.mono ?_;intro ex ρ U hc;cases ex with
       | normal =>
         obtain⟨t,e',rfl,rfl,hk⟩:=hc;dsimp only at hk;split at hk
         . rename_i L' PB;simp only[cS]at hk;refine⟨L',PB,?_,?_⟩
           . have:=hk.1;cases hs:L'.state<;>rw[hs]at this<;>first
              | rfl
              | (simp[isReady]at this)
           . have h5:=he _ _ _ _ _ _ _ _ hk.2;rw[pR]at h5;refine h5.mono ?_;intro ex ρ U EX;cases ex with
             | normal =>
               obtain⟨t',e2,rfl,rfl,iN⟩:=EX;simp only[endRound]at iN;split at iN
               . rename_i L2 TP;exact⟨L2,TP,_,(pR _ _ _).symm,iN⟩
               . cases iN
             | ret =>
               obtain⟨t',e2,rfl,rfl,iN⟩:=EX;simp only[endRound]at iN;split at iN
               . rename_i L2 TP;exact⟨L2,TP,_,(pR _ _ _).symm,iN⟩
               . cases iN
             | exit id =>
               obtain⟨t',e2,rfl,rfl,iN⟩:=EX;simp only[endRound]at iN;split at iN
               . rename_i L2 TP;exact⟨L2,TP,_,(pR _ _ _).symm,iN⟩
               . cases iN
             | panic x =>
               obtain⟨e2,rfl,iN⟩:=EX;simp only[endRound]at iN;split at iN<;>cases iN
         . cases hk
       | exit id=>obtain⟨t,e',rfl,rfl,hk⟩:=hc;cases hk
       | ret=>obtain⟨t,e',rfl,rfl,hk⟩:=hc;cases hk
       | panic x=>obtain⟨e',rfl,hk⟩:=hc;cases hk
 . cases h
def aaz(hV:uL V)(n:Nat)(ihs:∀m,m<n->z8 V (qF V m)):z8 V (qF V n):=by
 cases n with
 | zero=>intro nt mu tag ro c ρ e k h;cases h
 | succ n =>
   intro nt mu tag ro c ρ e k h;have ih:=ihs n (Nat.lt_succ_self n);have hf:=Ly hV ih;have hy:=aac hV ih
   by_cases hl:∃a,c=.loop a
   . obtain⟨a,rfl⟩:=hl;refine cu.loop (λj ρ U=>j<=n+1/\∃t e,ρ=iv t/\U=cj e/\qF V j nt mu tag ro (.loop a) t e k) (n:=n+1) ⟨da _,ρ,e,rfl,rfl,h⟩ ?_;rintro j fI aa ⟨hj,t,e',rfl,rfl,hk⟩;cases j with
     | zero=>cases hk
     | succ j =>
       simp only[qF]at hk;refine (ihs j d6 _ _ _ _ _ _ _ _ hk).mono ?_;intro ex uF aV hc;cases ex with
       | normal =>
         obtain⟨t2,e2,rfl,rfl,iN⟩:=hc;exact⟨j,Nat.lt_succ_self j,d6,t2,e2,rfl,rfl,iN⟩
       | exit id=>exact hc
       | ret=>exact hc
       | panic x=>exact hc
   simp only[qF]at h;split at h
   . exact cu.skip ⟨ρ,e,rfl,rfl,h⟩
   . exact cu.exit ⟨ρ,e,rfl,rfl,h⟩
   . exact cu.ret ⟨ρ,e,rfl,rfl,h⟩
   . rename_i a b;refine cu.seq ((ih _ _ _ _ _ _ _ _ h).mono ?_);intro ex fI aa hc;cases ex with
     | normal =>
       obtain⟨t,e',rfl,rfl,hk⟩:=hc;exact ih _ _ _ _ _ _ _ _ hk
     | exit id=>exact hc
     | ret=>exact hc
     | panic x=>exact hc
   . rename_i x a b;split at h
     . rename_i hc;exact cu.ahZ hc (ih _ _ _ _ _ _ _ _ h)
     . rename_i hc;exact cu.ahY hc (ih _ _ _ _ _ _ _ _ h)
     . cases h
   . rename_i id a;refine cu.block ((ih _ _ _ _ _ _ _ _ h).mono ?_);intro ex fI aa hc;cases ex with
     | normal=>exact hc
     | exit Fg =>
       obtain⟨t,e',rfl,rfl,hk⟩:=hc;simp only[CQ];dsimp only at hk;split
       . rename_i hid;subst hid;rw[Nat.beq_refl,cond_true]at hk;exact⟨t,e',rfl,rfl,hk⟩
       . rename_i hid;rw[Dv hid,cond_false]at hk;exact⟨t,e',rfl,rfl,hk⟩
     | ret=>exact hc
     | panic x=>exact hc
   . rename_i a;exact (hl ⟨a,rfl⟩).elim
   . rename_i id ops;simp only[cS]at h;refine cu.region mu h.1 (ze ?_ ?_ _ (FH hf hy _ _ _ h.2))
     . rintro fI aa ⟨t,e',rfl,rfl,hk⟩;exact⟨t,e',rfl,rfl,hk⟩
     . rintro v aa ⟨e',rfl,hk⟩ fI;exact⟨e',rfl,hk⟩
   . rename_i id ops;split at h
     . simp only[cS]at h;refine cu.xo mu _ _ hV.mixed h.1.1 (by rw[cS];exact h.1.2) (l9 ?_ ?_ _ (qV hV hf hy _ _ _ h.2))
       . rintro fI aa ⟨t,e',rfl,rfl,hk⟩;exact⟨t,e',rfl,rfl,hk⟩
       . rintro v aa ⟨e',rfl,hk⟩ fI;exact⟨e',rfl,hk⟩
     . rename_i rows ey I post _;simp only[cS]at h;have hkp:∀v U,kA (λx e=>k (.panic x) .e e) v U->Cj (kC k) v U:=by
        rintro v aa ⟨e',rfl,hk⟩ fI;exact⟨e',rfl,hk⟩
       refine cu.Vu (B:=preB V mu e ops.toList ρ []) (mu:=mu) ey I post hV.mixed h.1 (OP h.2.1) (l9 ?_ hkp _ (qV hV hf hy _ _ _ h.2.2));rintro fI aa ⟨t,e',rfl,rfl,hk⟩;obtain⟨Fg,q1,q2,q3,t2,e2,q4,q5,q6⟩:=aeE t e' hk;refine⟨Fg,q1,q2,q3,?_⟩;have key:=l9 (K':=KQ (kC k)) (by
        rintro uF aV ⟨t3,e3,rfl,rfl,hk⟩;exact⟨t3,e3,rfl,rfl,hk⟩) hkp _ (qV hV hf hy _ _ _ q6)
       rw[<-q4,<-q5]at key;exact key
   . rename_i f ps assign body;split at h
     . rename_i lV first cap hfn
       simp only[cS]at h;refine cu.rangeFunc tag hfn h.1 λo ho=>?_;have:=xz ho;subst this;rw[<-vj];refine (hf _ _ _ _ h.2).mono ?_;rintro r U ⟨e',rfl,hk⟩;cases r with
       | ret v =>
         simp only[LI]at hk;split at hk
         . rename_i L hL;simp only[cS,Bool.not_eq_true']at hk;refine⟨L,hL,λhb=>?_,?_⟩
           . rw[hb]at hk;simp[Uz]at hk
           . have iN:=hk.2;rw[<-Gb];split at iN
             . rename_i hp;try rw[hp]
               exact⟨_,_,rfl,rfl,iN⟩
             . rename_i hp;try rw[hp]
               exact⟨_,_,rfl,rfl,iN⟩
             . rename_i id hp;try rw[hp]
               exact⟨_,_,rfl,rfl,iN⟩
             . cases iN
         . cases hk
       | panic x=>exact⟨e',rfl,hk⟩
     . cases h
   . cases h
def agb(hV:uL V)(n:Nat):z8 V (qF V n):=by
 induction n using Nat.strongRecOn with
 | _ n ih=>exact aaz hV n ih
def agc{V:kV}(hV:uL V)(n f:Nat)(args:List AV)(e:ES)(k:KR)(h:xf V (qF V n) f args e k):ag V.C f args (cj e) (kR k):=Ly hV (agb hV n) f args e k h
end
mutual
def closed:AV->Bool
 | .box _ _|.ms _ _ _ _ _|.mp _|.uK _|.it _=>false
 | .vec _ (.own _) _=>false
 | .vec _ _ l=>cW l
 | .dJ l=>cW l
 | .iK ks vs=>cW ks&&cW vs
 | .func _ a b=>cW a&&cW b
 | .iface _ v=>closed v
 | .agg l=>cW l
 | .az l=>cW l
 | _=>true
def cW:List AV->Bool
 | []=>true
 | x::xs=>closed x&&cW xs
end
variable {g:Gh}
mutual
def aB.closed{g':Gh}(hi:∀b o x,g.du b o=some x->g'.du b o=some x)(hm:∀b x,g.cY b=some x->g'.cY b=some x):∀(x:AV)(v:Value),closed x->aB g x v->aB g' x v
 | .bool _,_,_,hr=>hr
 | .int _ _,_,_,hr=>hr
 | .str _,_,_,hr=>hr
 | .bE,_,_,hr=>hr
 | .af,_,_,hr=>hr
 | .lK,_,_,hr=>hr
 | .eY,_,_,hr=>hr
 | .eu,_,_,hr=>hr
 | .box _ _,_,hc,_=>by cases hc
 | .ms _ _ _ _ _,_,hc,_=>by cases hc
 | .mp _,_,hc,_=>by cases hc
 | .uK _,_,hc,_=>by cases hc
 | .it _,_,hc,_=>by cases hc
 | .dJ l,_,hc,hr=>by
   simp only[aB]at hr ⊢;obtain⟨aR,off,vs,hv,h1,h2⟩:=hr;exact⟨aR,off,vs,hv,λi u hu=>hi _ _ _ (h1 i u hu),aJ.closed hi hm l vs hc h2⟩
 | .vec n cap l,_,hc,hr=>by
   simp only[aB]at hr ⊢;obtain⟨aR,off,c,vs,hv,h1,h2,h3,h4,h5⟩:=hr;cases cap with
   | own τ=>cases hc
   | full=>exact⟨aR,off,c,vs,hv,h1,h2,h3,λi u hu=>hi _ _ _ (h4 i u hu),aJ.closed hi hm l vs hc h5⟩
   | lC=>exact⟨aR,off,c,vs,hv,h1,h2,trivial,λi u hu=>hi _ _ _ (h4 i u hu),aJ.closed hi hm l vs hc h5⟩
 | .iK ks vs,_,hc,hr=>by
   simp only[aB]at hr ⊢;simp only[Go.Rip.closed,cS]at hc;obtain⟨r,es,c,l,hv,he,hp,hs,h1,h2⟩:=hr;exact⟨r,es,c,l,hv,hm _ _ he,hp,hs,aJ.closed hi hm ks _ hc.1 h1,aJ.closed hi hm vs _ hc.2 h2⟩
 | .func fn first captured,_,hc,hr=>by
   simp only[aB]at hr ⊢;simp only[Go.Rip.closed,cS]at hc;obtain⟨fs,cs,hv,h1,h2⟩:=hr;exact⟨fs,cs,hv,aJ.closed hi hm first _ hc.1 h1,aJ.closed hi hm captured _ hc.2 h2⟩
 | .iface t x,_,hc,hr=>by
   simp only[aB]at hr ⊢;obtain⟨u,hv,h1⟩:=hr;exact⟨u,hv,aB.closed hi hm x _ hc h1⟩
 | .agg l,_,hc,hr=>by
   simp only[aB]at hr ⊢;obtain⟨vs,hv,h0,h1⟩:=hr;exact⟨vs,hv,h0,aJ.closed hi hm l _ hc h1⟩
 | .az l,_,hc,hr=>by
   simp only[aB]at hr ⊢;obtain⟨vs,hv,h1⟩:=hr;exact⟨vs,hv,aJ.closed hi hm l _ hc h1⟩
 | .any,_,_,_=>by simp only[aB]
def aJ.closed{g':Gh}(hi:∀b o x,g.du b o=some x->g'.du b o=some x)(hm:∀b x,g.cY b=some x->g'.cY b=some x):∀(l:List AV)(vs:List Value),cW l->aJ g l vs->aJ g' l vs
 | [],_,_,hr=>by simpa only[aJ] using hr
 | x::xs,_,hc,hr=>by
   simp only[aJ]at hr ⊢;simp only[cW,cS]at hc;obtain⟨u,us,hv,h1,h2⟩:=hr;exact⟨u,us,hv,aB.closed hi hm x _ hc.1 h1,aJ.closed hi hm xs _ hc.2 h2⟩
end
def resolve:Nat->St->AV->AV
 | 0,_,_=>.any
 | n+1,U,x=>match x with
   | .box b off=>match U.box b with
     | some l=>.dJ ((l.map (resolve n U)).drop off)
     | none=>.any
   | .ms b off k _ _=>match U.box b with
     | some l=>.vec k .lC ((l.map (resolve n U)).drop off)
     | none=>.any
   | .mp m=>match U.mp m with
     | some (ks,vs)=>.iK ks (vs.map (resolve n U))
     | none=>.any
   | .vec k .full l=>.vec k .full (l.map (resolve n U))
   | .vec k _ l=>.vec k .lC (l.map (resolve n U))
   | .dJ l=>.dJ (l.map (resolve n U))
   | .iK ks vs=>.iK ks (vs.map (resolve n U))
   | .func f a b=>.func f (a.map (resolve n U)) (b.map (resolve n U))
   | .iface t v=>.iface t (resolve n U v)
   | .agg l=>.agg (l.map (resolve n U))
   | .az l=>.az (l.map (resolve n U))
   | .uK _|.it _=>.any
   | x=>x
noncomputable def Gh.all(g:Gh)(w:World):Gh :=
 { g with
  du:=λq o=>if g.base<=q then (match w.cell? ⟨q,o,none⟩ with|some u=>if u.oneCell'=true then some u else none|none=>none) else g.du q o
  cY:=λq=>if g.base<=q then (match w.heap[q]? with|some (.map es c)=>if h:(open Classical in decide (nD es c))=true then some (es,c) else none|_=>none) else g.cY q }
variable {w:World}
def Pe{q o:Nat}{u:Value}(hq:g.base<=q)(hc:w.cell? ⟨q,o,none⟩=some u)(h1:u.oneCell'):(g.all w).du q o=some u:=by
 show (if _ then _ else _)=_
 rw[if_pos hq,hc];simp[h1]
def Lm{q:Nat}{es:Array MapEntry}{c:Nat}(hq:g.base<=q)(hc:w.heap[q]?=some (.map es c))(h1:nD es c):(g.all w).cY q=some (es,c):=by
 show (if _ then _ else _)=_
 rw[if_pos hq,hc];simp[h1]
def bT.He(h:bT g U w):Gh.Le g (g.all w):=by
 refine⟨rfl,rfl,λ_ _ h=>h,λb o x hx=>?_,λb x hx=>?_,λ_ h=>h,λb o hb=>?_,λb hb=>?_⟩
 . by_cases hq:g.base<=b
   . exact Pe hq (h.du _ _ _ hx).1 (h.du _ _ _ hx).2
   . show (if _ then _ else _)=_
     rw[if_neg hq];exact hx
 . by_cases hq:g.base<=b
   . exact Lm hq (h.cY _ _ _ hx).1 (h.cY _ _ _ hx).2
   . show (if _ then _ else _)=_
     rw[if_neg hq];exact hx
 . show (if _ then _ else _)=_
   rw[if_neg d6]
 . show (if _ then _ else _)=_
   rw[if_neg d6]
def Bi(h:bT g U w)(q o:Nat)(u:Value)(hu:(g.all w).du q o=some u):w.cell? ⟨q,o,none⟩=some u/\u.oneCell':=by
 have hu:(if g.base<=q then (match w.cell? ⟨q,o,none⟩ with|some u=>if u.oneCell'=true then some u else none|none=>none) else g.du q o)=some u:=hu
 split at hu
 . split at hu
   . rename_i x hx;split at hu
     . cases hu;exact⟨hx,by assumption⟩
     . cases hu
   . cases hu
 . exact h.du _ _ _ hu
def zy(h:bT g U w)(q:Nat)(es:Array MapEntry)(c:Nat)(hu:(g.all w).cY q=some (es,c)):w.heap[q]?=some (.map es c)/\nD es c:=by
 have hu:(if g.base<=q then (match w.heap[q]? with|some (.map es c)=>if h:(open Classical in decide (nD es c))=true then some (es,c) else none|_=>none) else g.cY q)=some (es,c):=hu
 split at hu
 . split at hu
   . rename_i Ah c' hx;split at hu
     . rename_i hb;cases hu;exact⟨hx,by simpa using hb⟩
     . cases hu
   . cases hu
 . exact h.cY _ _ _ hu
def F2{g':Gh}{f:AV->AV}:∀{l:List AV}{vs:List Value},(∀x v,x∈l->aB g x v->aB g' (f x) v)->aJ g l vs->aJ g' (l.map f) vs
 | [],_,_,h=>by simpa only[aJ,mq] using h
 | x::xs,_,hf,h=>by
   simp only[aJ,fh]at h ⊢;obtain⟨u,us,hv,h1,h2⟩:=h;exact⟨u,us,hv,hf x u d8 h1,F2 (λy v hy=>hf y v (by simp[hy])) h2⟩
def Ft(h:bT g U w):∀(n:Nat)(x:AV)(v:Value),aB g x v->aB (g.all w) (resolve n U x) v:=by
 intro n
 induction n with
 | zero=>intro x v _;simp only[resolve,aB]
 | succ n ih =>
   intro x v hr;have hl:=h.He;have yb:∀{l:List AV}{vs:List Value},aJ g l vs->aJ (g.all w) (l.map (resolve n U)) vs:=λh=>F2 (λy v _ hy=>ih y v hy) h;have hi:∀{aR off:Nat}{vs:List Value},ot g aR off vs->ot (g.all w) aR off vs:=λh=>h.mono hl;have box:∀{b off:Nat}{l:List AV}{p:Place},U.box b=some l->g.place b=some p->∃vs,ot (g.all w) p.aR off vs/\aJ (g.all w) ((l.map (resolve n U)).drop off) vs:=λ{b off l p}hb hp=>by
    obtain⟨x',cur,vs,rest,k1,k2,k3,k4,k5,k6,k7,k8⟩:=h.box b l hb;have k1:g.place b=some x':=k1;rw[hp]at k1;cases k1;refine⟨vs.drop off,λi u hu=>?_,(yb k6).drop off⟩;rw[List.getElem?_drop]at hu;have aA:off+i<vs.length:=by
     rcases ik (off+i) vs.length with h|h
     . exact h
     . simp[pn h]at hu
    have hc:cur[off+i]?=some u:=by rw[<-nO,k5,yp aA];exact hu
    exact Pe k2 (by rw[cell_of_row _ _ _ cur p.e (0,0) k3];exact hc) (k7 u (fT (by rw[nO];exact hc)))
   cases x with
   | box b off =>
     simp only[resolve];cases hb:U.box b with
     | none=>simp only[aB]
     | some l =>
       simp only[aB]at hr ⊢;obtain⟨p,hp,rfl⟩:=hr;obtain⟨vs,h1,h2⟩:=box (off:=off) hb hp;exact⟨p.aR,off,vs,rfl,h1,h2⟩
   | ms b off k lx e =>
     simp only[resolve];cases hb:U.box b with
     | none=>simp only[aB]
     | some l =>
       simp only[aB]at hr ⊢;obtain⟨p,c,hp,rfl,q1,q2,_⟩:=hr;obtain⟨vs,h1,h2⟩:=box (off:=off) hb hp;exact⟨p.aR,off,c,vs,rfl,q1,q2,trivial,h1,h2⟩
   | mp m =>
     simp only[resolve];cases hm:U.mp m with
     | none=>simp only[aB]
     | some kv =>
       obtain⟨ks,vs⟩:=kv;simp only[aB]at hr ⊢;obtain⟨r,hr,rfl⟩:=hr;obtain⟨r',es,clock,q1,q2,q3,qb,⟨l,q4,q5,q6,q7⟩,q8⟩:=h.mp m _ hm;rw[hr]at q1;cases q1;exact⟨r,es,clock,l,rfl,Lm q2 q3 qb,q4,q5,q6.mono hl,yb q7⟩
   | vec k c l =>
     simp only[aB]at hr;obtain⟨aR,off,c',vs,rfl,h1,h2,h3,h4,h5⟩:=hr;cases c with
     | full=>simp only[resolve,aB];exact⟨aR,off,c',vs,rfl,h1,h2,h3,hi h4,yb h5⟩
     | own τ=>simp only[resolve,aB];exact⟨aR,off,c',vs,rfl,h1,h2,trivial,hi h4,yb h5⟩
     | lC=>simp only[resolve,aB];exact⟨aR,off,c',vs,rfl,h1,h2,trivial,hi h4,yb h5⟩
   | dJ l =>
     simp only[resolve,aB]at hr ⊢;obtain⟨aR,off,vs,rfl,h1,h2⟩:=hr;exact⟨aR,off,vs,rfl,hi h1,yb h2⟩
   | iK ks vs =>
     simp only[resolve,aB]at hr ⊢;obtain⟨r,es,c,l,rfl,he,hp,hs,h1,h2⟩:=hr;exact⟨r,es,c,l,rfl,hl.cY _ _ he,hp,hs,h1.mono hl,yb h2⟩
   | func f a b =>
     simp only[resolve,aB]at hr ⊢;obtain⟨fs,cs,rfl,h1,h2⟩:=hr;exact⟨fs,cs,rfl,yb h1,yb h2⟩
   | iface t x =>
     simp only[resolve,aB]at hr ⊢;obtain⟨u,rfl,h1⟩:=hr;exact⟨u,rfl,ih _ _ h1⟩
   | agg l =>
     simp only[resolve,aB]at hr ⊢;obtain⟨vs,rfl,h0,h1⟩:=hr;exact⟨vs,rfl,h0,yb h1⟩
   | az l =>
     simp only[resolve,aB]at hr ⊢;obtain⟨vs,rfl,h1⟩:=hr;exact⟨vs,rfl,yb h1⟩
   | uK o=>simp only[resolve,aB]
   | it o=>simp only[resolve,aB]
   | any=>simp only[resolve,aB]
   | bool b=>simp only[resolve];exact hr.mono hl
   | int k n=>simp only[resolve];exact hr.mono hl
   | str s=>simp only[resolve];exact hr.mono hl
   | bE=>simp only[resolve];exact hr.mono hl
   | af=>simp only[resolve];exact hr.mono hl
   | lK=>simp only[resolve];exact hr.mono hl
   | eY=>simp only[resolve];exact hr.mono hl
   | eu=>simp only[resolve];exact hr.mono hl
def Pure.Ew{f:Nat}{args:List AV}{x:AV}(GV:∀i,closed (C.C2 i))(hargs:cW args)(hx:closed x)(d:Nat)
 (h:ag C f args (cj ⟨.e,0⟩) (λr U=>∃v,r=.ret v/\resolve d U v=x)):Pure C f args x:=by
 intro U R hR g w vs hs hG ha;let g0:Gh:={ base:=w.heap.size,w0:=w,place:=λ_=>none,du:=g.du,cY:=g.cY,res:=λ_=>false };have wS:bT g0 (cj ⟨.e,0⟩) w:={
  below:=Below.refl _ _
  le:=da _
  du:=hs.du
  cY:=hs.cY
  live:=λb x hb=>by cases hb
  apart:=λb b' x x' p p' hb=>by cases hb
  res:=λr hr=>by cases hr
  fin:=⟨0,λn hn=>by cases hn;rfl,λ_ _=>rfl⟩ }
 have TO:kz C g0:=⟨λi=>aB.closed (g:=g) (g':=g0) (λ_ _ _ h=>h) (λ_ _ h=>h) _ _ (GV i) (hG.1 i),λi cs hi=>by
  obtain⟨k1,t,fr,k2⟩:=hG.2 i cs hi;refine⟨Nat.lt_of_lt_of_le k1 hs.le,t,fr,?_⟩;show w.heap[i]?=_;rw[hs.below.block i k1];exact k2⟩
 have ha0:aJ g0 args vs:=aJ.closed (g:=g) (g':=g0) (λ_ _ _ h=>h) (λ_ _ h=>h) _ _ hargs ha;refine (h g0 w vs wS TO ha0).mono ?_;rintro e w' hp;cases e with
 | panicked ch=>obtain⟨g',aa,y,v,_,_,_,_,z,hz,_⟩:=hp;cases hz
 | outgrown=>exact hp.elim
 | returned v =>
   obtain⟨g',aa,y,h1,h2,h3,z,hz,hres⟩:=hp;cases hz;have cg:=Ft h2 d y v h3;rw[hres]at cg;have ya:=h2.He;have hle:=h1.trans ya;have akS:g'.base=w.heap.size:=h1.base;have Bo:Below w.heap.size w w':=by
    have:=h2.below;rw[h1.base,h1.w0]at this;exact this
   let gF:Gh:={ base:=g.base,w0:=g.w0,place:=g.place,du:=(g'.all w').du,cY:=(g'.all w').cY,res:=g.res };have Mi:Gh.Le g gF:=⟨rfl,rfl,λ_ _ h=>h,λb o u hu=>hle.du b o u hu,λb u hu=>hle.cY b u hu,λ_ h=>h,
    λb o hb=>hle.Dh b o (by show b<w.heap.size;have:=hs.le;omega),λb hb=>hle.AE b (by show b<w.heap.size;have:=hs.le;omega)⟩
   refine⟨gF,U,x,Mi,?_,aB.closed (g:=g'.all w') (g':=gF) (λ_ _ _ h=>h) (λ_ _ h=>h) x v hx cg,hR⟩;exact {
    below:=hs.below.trans (Bo.mono hs.le)
    le:=Nat.le_trans hs.le Bo.size
    du:=λq o u hu=>Bi h2 q o u hu
    cY:=λq es c hu=>zy h2 q es c hu
    live:=λb l hb=>by
     obtain⟨p,k1,k2,k3⟩:=hs.live b l hb;have aA:=k3.lt;exact⟨p,k1,k2,k3.frame Mi.r (Bo.block _ aA) (λo=>hle.Dh _ o aA) (hle.AE _ aA)⟩
    apart:=hs.apart
    res:=λr hr=>by
     obtain⟨k1,k2⟩:=hs.res r hr;exact⟨k1,by rw[Bo.block _ (nN.1 k2).1];exact k2⟩
    fin:=hs.fin }
def aiD(d:Nat)(x:AV):KR
 | .ret v,e=>lP (resolve d (cj e) v) x
 | .panic _,_=>false
def Pure.iz{V:kV}(hV:uL V)(n d:Nat){f:Nat}{args:List AV}{x:AV}(GV:∀i,closed (V.C.C2 i))(h:(cW args&&closed x&&xf V (qF V n) f args ⟨.e,0⟩ (aiD d x))):Pure V.C f args x:=by
 simp only[cS]at h;refine Pure.Ew GV h.1.1 h.1.2 d ((agc hV n f args ⟨.e,0⟩ _ h.2).mono ?_);rintro r U ⟨e,rfl,hk⟩;cases r with
 | ret v=>exact⟨v,rfl,Ag hk⟩
 | panic v=>cases hk
def ac5(R:St->Prop):Ex->Env->St->Prop
 | .normal,_,U=>R U
 | .ret,_,U=>R U
 | _,_,_=>False
def afo{C:dQ}{f:FuncId}{fn:Func}{id:Nat}{o:Oper}{d:Nat}{rest:Code}{args:List AV}{U:St}{g:Gh}{w:World}{vs:List Value}
 (hf:C.P.funcs[f]?=some fn) (hb:fn.body=some (.seq (.region id #[o] false) rest)) (hres:fn.results=#[]) (hop:∀ev w,(execOp ev o).run C.P w=.ok .recover w) (hd:o.dst=some d) (hdn:d<fn.ntmps) (hg:o.guard=none)
 (hlen:args.length<=fn.ntmps) (hs:bT g U w) (hG:kz C g) (ha:aJ g args vs) {x:AV} {v:Value} {u u':FrameMode} (hx:aB g x v)
 (hu:(u=.returning/\v=.nilIface/\u'=.returning)\/(u=.panicking [{ v,recovered:=false }]/\u'=.panicking [{ v,recovered:=true }])) (R:St->Prop)
 (h:cu C fn.ntmps .bare rest (ac5 R) ((Env.mh args).put d x) U) :
 CallsDIn Fence.wide 0 C.P f vs.toArray u w (λe u2 w'=>∃v',e=.returned v'/\u2=u'/\∃g' aa,Gh.Le g g'/\bT g' aa w'/\R aa):=by
 refine callsDIn_of_wpSIn hf hb trivial λLB cs hm=>?_;refine wpSIn_seq (wpSIn_region ?_);have hl:=ha.length;have gj:(vs.toArray++Array.replicate (fn.ntmps-vs.toArray.size) undef).size=fn.ntmps:=by simp;omega
 have Ij:jO g (Env.mh args) (vs.toArray++Array.replicate (fn.ntmps-vs.toArray.size) undef):=FD args vs _ ha;have aa4:=Ij.put (d:=d) (by rw[gj];exact hdn) hx;have after:∀GA,(GA={ LB with mode:=u' }::cs)->rest.wpSIn Fence.wide 0 C.P (bodyPostS C.P fn LB cs λe u2 w'=>∃v',e=.returned v'/\u2=u'/\∃g' aa,Gh.Le g g'/\bT g' aa w'/\R aa)
  (Act.put { tmps:=vs.toArray++Array.replicate (fn.ntmps-vs.toArray.size) undef,defers:=[] } o.dst v) GA w:=λGA wh=>by
  refine wpSIn_of_wpIn rfl ?_;have:=h g w (Act.put { tmps:=vs.toArray++Array.replicate (fn.ntmps-vs.toArray.size) undef,defers:=[] } o.dst v) none hs hG (by rw[hd];exact aa4) (by rw[(rn _ _ _).2];exact gj) trivial;refine wpIn_mono this ?_;rintro e a w' ⟨q1,g',aa,fI,ms,q2,q3,q4,q5,q6,q7⟩;have Da:ms=[]:=q3.none rfl;subst Da;rw[(rn _ _ _).1]at q2;simp only[mq,mQ]at q2;have hr:∀tmps,(results fn tmps).run C.P w'=.ok (.tuple #[]) w':=λtmps=>by
   unfold results;rw[hres];simp
  cases e with
  | normal=>exact⟨q2,u',wh,_,hr _,_,rfl,rfl,g',aa,q4,q5,q7⟩
  | ret=>exact⟨q2,u',wh,_,hr _,_,rfl,rfl,g',aa,q4,q5,q7⟩
  | exit id=>exact q7.elim
  | panic ch=>obtain⟨_,_,_,_,hf⟩:=q7;exact hf.elim
  | goto l=>exact q7.elim
  | outgrown=>exact q7.elim
 have hw:Region.wanted o (yielded #[o] (vs.toArray++Array.replicate (fn.ntmps-vs.toArray.size) undef)):=by simp[Region.wanted,hg]
 show wpOpsSIn Fence.wide 0 C.P #[o] _ [0] _ _ _;simp only[wpOpsSIn,List.getElem?_toArray,List.getElem?_cons_zero,hw,if_true,hop];refine⟨λ_ _=>trivial,?_⟩;rcases hu with ⟨rfl,rfl,rfl⟩|⟨rfl,rfl⟩
 . have e1:recoverD (LB::cs)=none:=by simp[recoverD,hm]
   rw[e1];exact after _ (by rw[<-hm])
 . have e1:recoverD (LB::cs)=some (v,{ LB with mode:=.panicking [{ v,recovered:=true }] }::cs):=by simp[recoverD,hm]
   rw[e1];exact after _ rfl
abbrev bi:=bA->St->Prop
end Go.Rip
